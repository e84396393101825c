/- A part of the claim FieldMore: lemmas, printed functions with their contracts, plain laws. -/
import Derived.Test.YtfdoncgljohndaacFieldMore5
set_option linter.unusedVariables false
set_option linter.unusedSimpArgs false
namespace Go.Proofs.Ytfdoncgljohndaa.P
open Go.Proofs.YtfdoncgljohndaaH Go.RowKit Go.Proofs.YtfdoncgljohndaaW.PrintWords Go.Proofs.YtfdoncgljohndaaW.PrintLast Go.Proofs.YtfdoncgljohndaaW.PrintMore
attribute [local go_sem] max2_int min2_int max_two min_two max_three min_three max_four min_four   -- for this text's walks alone
attribute [local go_sem] Go.Proofs.YtfdoncgljohndaaH.cell_set_map
attribute [local go_sem high] eqA40
def parolelaw32_FieldMore.f (k : Nat) (a0_0 : Int) (l0_1 : List (S58)) (a0_2 : Int) (a1_0 : Int) (a1_1 : Int) (a1_2 : Int) (a1_3 : Int) (a1_4 : Int) (a1_5 : Int) : Option (Bool) := (parolelaw32_examples.f).bind fun t103 => (if t103 = true then ((parolelaw32_made.f k a0_0 l0_1 a0_2).bind fun bt104 => ((field_Gather.f k bt104.1 bt104.2.1 bt104.2.2).bind fun bt111 => ((some (([] : List (S28)) : List (S28))).bind fun y118 => (if y118.length + bt104.2.1.length < 2513169434916 then ((some (y118 ++ bt104.2.1 : List (S28))).bind fun y121 => ((paroleref32_Made.f k bt104.1 a1_0 a1_1 a1_2 a1_3 a1_4 a1_5).bind fun bt124 => ((some (([(⟨bt124.1, bt124.2.1, bt124.2.2.1, bt124.2.2.2.1, bt124.2.2.2.2.1, bt124.2.2.2.2.2.1, bt124.2.2.2.2.2.2⟩ : S28)] : List (S28)) : List (S28))).bind fun y131 => (if y121.length + y131.length < 2513169434916 then ((field_Gather.f k bt104.1 (y121 ++ y131) bt104.2.2).bind fun bt137 => ((some (([] : List Int) : List Int)).bind fun y144 => (if y144.length + bt104.1.length < 17592186044416 then ((some (y144 ++ bt104.1 : List Int)).bind fun y147 => ((some (([3] : List Int) : List Int)).bind fun y150 => (if y147.length + y150.length < 17592186044416 then ((field_Gather.f k (y147 ++ y150) bt104.2.1 bt104.2.2).bind fun bt156 => (if bt111.2.2.2.2.1 ≤ bt137.2.2.2.2.1 then (if bt111.2.2.2.1 ≤ bt137.2.2.2.1 then (if bt111.2.2.1 ≤ bt137.2.2.1 then (if bt111.2.1 ≤ bt137.2.1 then (if bt137.2.1 ≤ (wrap64 (bt111.2.1 + 1)) then (some (bt156.1 == bt111.1 && (bt156.2.1 == bt111.2.1 && (bt156.2.2.1 == bt111.2.2.1 && (bt156.2.2.2.1 == bt111.2.2.2.1 && (bt156.2.2.2.2.1 == bt111.2.2.2.2.1 && (bt156.2.2.2.2.2 == bt111.2.2.2.2.2))))))) else (some false)) else (some false)) else (some false)) else (some false)) else (some false))) else (none)))) else (none)))) else (none))))) else (none))))) else (some false))
def parolelaw32_FieldMore.T6 : Bool × List (List Nat × List Nat) := (true, [([], []), ([], []), ([], []), ([1, 2], [1, 2]), ([], []), ([], []), ([4, 5, 3], [4, 5]), ([6], [6]), ([3, 7, 6], [3, 7]), ([], []), ([0, 8, 9, 8], [0, 8, 9]), ([], []), ([11, 10, 10, 0, 1, 2, 3, 4, 5, 6, 7, 8, 9, 10, 11], [10, 11])])
def parolelaw32_FieldMore.B6 : List Nat := [0, 0, 0, 6, 0, 0, 62, 126, 254, 0, 1023, 0, 4095]
theorem parolelaw32_FieldMore.tab6 : rtab .any (opsOf Try.f7 6) = parolelaw32_FieldMore.T6 := by kernel_rfl
theorem parolelaw32_FieldMore.bits6 : waitsOk parolelaw32_FieldMore.T6.2 parolelaw32_FieldMore.B6 = true := by kernel_rfl
set_option maxHeartbeats 40000000 in
set_option maxRecDepth 100000 in
theorem parolelaw32_FieldMore.calls (k : Nat) (a0_0 : Int) (A0_1 : Option Addr) (c0_1 : Nat) (l0_1 : List (S58)) (a0_2 : Int) (a1_0 : Int) (a1_1 : Int) (a1_2 : Int) (a1_3 : Int) (a1_4 : Int) (a1_5 : Int) (r : Bool) (w : World) (hr0_1 : Kd.C k58 w A0_1 l0_1.length l0_1) (hc0_1 : l0_1.length ≤ c0_1) (hT : r = true) (h : parolelaw32_FieldMore.f k a0_0 l0_1 a0_2 a1_0 a1_1 a1_2 a1_3 a1_4 a1_5 = some r) :
  Calls Try.prog 7 #[.agg #[.int .u8 a0_0, .slice A0_1 l0_1.length c0_1, .int .u8 a0_2], .agg #[.int .u8 a1_0, .int .u8 a1_1, .int .u8 a1_2, .int .u8 a1_3, .int .u8 a1_4, .int .u8 a1_5]] w fun e w' => e = .returned (.bool r) ∧ Below w.heap.size w w' := by
 have hu24 := Try.underlying24; have hu58 := Try.underlying58; have hu40 := Try.underlying40; have HR0_1 := aM hr0_1; have HC0_1 := aM hc0_1; clear hr0_1 hc0_1; have HB := aM (Below.refl w.heap.size w); have HT := aM hT; clear hT
 have H : ((parolelaw32_examples.f).bind fun t103 => (if t103 = true then ((parolelaw32_made.f k a0_0 l0_1 a0_2).bind fun bt104 => ((field_Gather.f k bt104.1 bt104.2.1 bt104.2.2).bind fun bt111 => ((some (([] : List (S28)) : List (S28))).bind fun y118 => (if y118.length + bt104.2.1.length < 2513169434916 then ((some (y118 ++ bt104.2.1 : List (S28))).bind fun y121 => ((paroleref32_Made.f k bt104.1 a1_0 a1_1 a1_2 a1_3 a1_4 a1_5).bind fun bt124 => ((some (([(⟨bt124.1, bt124.2.1, bt124.2.2.1, bt124.2.2.2.1, bt124.2.2.2.2.1, bt124.2.2.2.2.2.1, bt124.2.2.2.2.2.2⟩ : S28)] : List (S28)) : List (S28))).bind fun y131 => (if y121.length + y131.length < 2513169434916 then ((field_Gather.f k bt104.1 (y121 ++ y131) bt104.2.2).bind fun bt137 => ((some (([] : List Int) : List Int)).bind fun y144 => (if y144.length + bt104.1.length < 17592186044416 then ((some (y144 ++ bt104.1 : List Int)).bind fun y147 => ((some (([3] : List Int) : List Int)).bind fun y150 => (if y147.length + y150.length < 17592186044416 then ((field_Gather.f k (y147 ++ y150) bt104.2.1 bt104.2.2).bind fun bt156 => (if bt111.2.2.2.2.1 ≤ bt137.2.2.2.2.1 then (if bt111.2.2.2.1 ≤ bt137.2.2.2.1 then (if bt111.2.2.1 ≤ bt137.2.2.1 then (if bt111.2.1 ≤ bt137.2.1 then (if bt137.2.1 ≤ (wrap64 (bt111.2.1 + 1)) then (some (bt156.1 == bt111.1 && (bt156.2.1 == bt111.2.1 && (bt156.2.2.1 == bt111.2.2.1 && (bt156.2.2.2.1 == bt111.2.2.2.1 && (bt156.2.2.2.2.1 == bt111.2.2.2.2.1 && (bt156.2.2.2.2.2 == bt111.2.2.2.2.2))))))) else (some false)) else (some false)) else (some false)) else (some false)) else (some false))) else (none)))) else (none)))) else (none))))) else (none))))) else (some false))) = some r := h
 clear h; replace H := Option.bind_eq_some_iff.mp H
 obtain ⟨t103, A30, H⟩ := H
 replace H : (if t103 = true then ((parolelaw32_made.f k a0_0 l0_1 a0_2).bind fun bt104 => ((field_Gather.f k bt104.1 bt104.2.1 bt104.2.2).bind fun bt111 => ((some (([] : List (S28)) : List (S28))).bind fun y118 => (if y118.length + bt104.2.1.length < 2513169434916 then ((some (y118 ++ bt104.2.1 : List (S28))).bind fun y121 => ((paroleref32_Made.f k bt104.1 a1_0 a1_1 a1_2 a1_3 a1_4 a1_5).bind fun bt124 => ((some (([(⟨bt124.1, bt124.2.1, bt124.2.2.1, bt124.2.2.2.1, bt124.2.2.2.2.1, bt124.2.2.2.2.2.1, bt124.2.2.2.2.2.2⟩ : S28)] : List (S28)) : List (S28))).bind fun y131 => (if y121.length + y131.length < 2513169434916 then ((field_Gather.f k bt104.1 (y121 ++ y131) bt104.2.2).bind fun bt137 => ((some (([] : List Int) : List Int)).bind fun y144 => (if y144.length + bt104.1.length < 17592186044416 then ((some (y144 ++ bt104.1 : List Int)).bind fun y147 => ((some (([3] : List Int) : List Int)).bind fun y150 => (if y147.length + y150.length < 17592186044416 then ((field_Gather.f k (y147 ++ y150) bt104.2.1 bt104.2.2).bind fun bt156 => (if bt111.2.2.2.2.1 ≤ bt137.2.2.2.2.1 then (if bt111.2.2.2.1 ≤ bt137.2.2.2.1 then (if bt111.2.2.1 ≤ bt137.2.2.1 then (if bt111.2.1 ≤ bt137.2.1 then (if bt137.2.1 ≤ (wrap64 (bt111.2.1 + 1)) then (some (bt156.1 == bt111.1 && (bt156.2.1 == bt111.2.1 && (bt156.2.2.1 == bt111.2.2.1 && (bt156.2.2.2.1 == bt111.2.2.2.1 && (bt156.2.2.2.2.1 == bt111.2.2.2.2.1 && (bt156.2.2.2.2.2 == bt111.2.2.2.2.2))))))) else (some false)) else (some false)) else (some false)) else (some false)) else (some false))) else (none)))) else (none)))) else (none))))) else (none))))) else (some false)) = some r := H
 have A3 := aM A30; clear A30
 by_cases c4 : t103 = true
 rotate_left
 ·replace c4 := Bool.eq_false_iff.mpr c4
  subst c4
  have H1 : (some false) = some r := by rw [if_neg (show ¬ (false = true) by decide)] at H; exact H
  clear H; have H := H1; clear H1
  exact absurd ((Option.some.inj H).trans HT.out) (by decide)
 subst c4
 have H1 : ((parolelaw32_made.f k a0_0 l0_1 a0_2).bind fun bt104 => ((field_Gather.f k bt104.1 bt104.2.1 bt104.2.2).bind fun bt111 => ((some (([] : List (S28)) : List (S28))).bind fun y118 => (if y118.length + bt104.2.1.length < 2513169434916 then ((some (y118 ++ bt104.2.1 : List (S28))).bind fun y121 => ((paroleref32_Made.f k bt104.1 a1_0 a1_1 a1_2 a1_3 a1_4 a1_5).bind fun bt124 => ((some (([(⟨bt124.1, bt124.2.1, bt124.2.2.1, bt124.2.2.2.1, bt124.2.2.2.2.1, bt124.2.2.2.2.2.1, bt124.2.2.2.2.2.2⟩ : S28)] : List (S28)) : List (S28))).bind fun y131 => (if y121.length + y131.length < 2513169434916 then ((field_Gather.f k bt104.1 (y121 ++ y131) bt104.2.2).bind fun bt137 => ((some (([] : List Int) : List Int)).bind fun y144 => (if y144.length + bt104.1.length < 17592186044416 then ((some (y144 ++ bt104.1 : List Int)).bind fun y147 => ((some (([3] : List Int) : List Int)).bind fun y150 => (if y147.length + y150.length < 17592186044416 then ((field_Gather.f k (y147 ++ y150) bt104.2.1 bt104.2.2).bind fun bt156 => (if bt111.2.2.2.2.1 ≤ bt137.2.2.2.2.1 then (if bt111.2.2.2.1 ≤ bt137.2.2.2.1 then (if bt111.2.2.1 ≤ bt137.2.2.1 then (if bt111.2.1 ≤ bt137.2.1 then (if bt137.2.1 ≤ (wrap64 (bt111.2.1 + 1)) then (some (bt156.1 == bt111.1 && (bt156.2.1 == bt111.2.1 && (bt156.2.2.1 == bt111.2.2.1 && (bt156.2.2.2.1 == bt111.2.2.2.1 && (bt156.2.2.2.2.1 == bt111.2.2.2.2.1 && (bt156.2.2.2.2.2 == bt111.2.2.2.2.2))))))) else (some false)) else (some false)) else (some false)) else (some false)) else (some false))) else (none)))) else (none)))) else (none))))) else (none))))) = some r := by rw [if_pos rfl] at H; exact H
 clear H; have H := H1; clear H1; replace H := Option.bind_eq_some_iff.mp H
 obtain ⟨⟨t104, t107, t110⟩, A50, H⟩ := H
 replace H : ((field_Gather.f k t104 t107 t110).bind fun bt111 => ((some (([] : List (S28)) : List (S28))).bind fun y118 => (if y118.length + t107.length < 2513169434916 then ((some (y118 ++ t107 : List (S28))).bind fun y121 => ((paroleref32_Made.f k t104 a1_0 a1_1 a1_2 a1_3 a1_4 a1_5).bind fun bt124 => ((some (([(⟨bt124.1, bt124.2.1, bt124.2.2.1, bt124.2.2.2.1, bt124.2.2.2.2.1, bt124.2.2.2.2.2.1, bt124.2.2.2.2.2.2⟩ : S28)] : List (S28)) : List (S28))).bind fun y131 => (if y121.length + y131.length < 2513169434916 then ((field_Gather.f k t104 (y121 ++ y131) t110).bind fun bt137 => ((some (([] : List Int) : List Int)).bind fun y144 => (if y144.length + t104.length < 17592186044416 then ((some (y144 ++ t104 : List Int)).bind fun y147 => ((some (([3] : List Int) : List Int)).bind fun y150 => (if y147.length + y150.length < 17592186044416 then ((field_Gather.f k (y147 ++ y150) t107 t110).bind fun bt156 => (if bt111.2.2.2.2.1 ≤ bt137.2.2.2.2.1 then (if bt111.2.2.2.1 ≤ bt137.2.2.2.1 then (if bt111.2.2.1 ≤ bt137.2.2.1 then (if bt111.2.1 ≤ bt137.2.1 then (if bt137.2.1 ≤ (wrap64 (bt111.2.1 + 1)) then (some (bt156.1 == bt111.1 && (bt156.2.1 == bt111.2.1 && (bt156.2.2.1 == bt111.2.2.1 && (bt156.2.2.2.1 == bt111.2.2.2.1 && (bt156.2.2.2.2.1 == bt111.2.2.2.2.1 && (bt156.2.2.2.2.2 == bt111.2.2.2.2.2))))))) else (some false)) else (some false)) else (some false)) else (some false)) else (some false))) else (none)))) else (none)))) else (none))))) else (none)))) = some r := H
 have A5 := aM A50; clear A50; replace H := Option.bind_eq_some_iff.mp H
 obtain ⟨⟨t111, t112, t113, t114, t115, t116⟩, A60, H⟩ := H
 replace H : ((some (([] : List (S28)) : List (S28))).bind fun y118 => (if y118.length + t107.length < 2513169434916 then ((some (y118 ++ t107 : List (S28))).bind fun y121 => ((paroleref32_Made.f k t104 a1_0 a1_1 a1_2 a1_3 a1_4 a1_5).bind fun bt124 => ((some (([(⟨bt124.1, bt124.2.1, bt124.2.2.1, bt124.2.2.2.1, bt124.2.2.2.2.1, bt124.2.2.2.2.2.1, bt124.2.2.2.2.2.2⟩ : S28)] : List (S28)) : List (S28))).bind fun y131 => (if y121.length + y131.length < 2513169434916 then ((field_Gather.f k t104 (y121 ++ y131) t110).bind fun bt137 => ((some (([] : List Int) : List Int)).bind fun y144 => (if y144.length + t104.length < 17592186044416 then ((some (y144 ++ t104 : List Int)).bind fun y147 => ((some (([3] : List Int) : List Int)).bind fun y150 => (if y147.length + y150.length < 17592186044416 then ((field_Gather.f k (y147 ++ y150) t107 t110).bind fun bt156 => (if t115 ≤ bt137.2.2.2.2.1 then (if t114 ≤ bt137.2.2.2.1 then (if t113 ≤ bt137.2.2.1 then (if t112 ≤ bt137.2.1 then (if bt137.2.1 ≤ (wrap64 (t112 + 1)) then (some (bt156.1 == t111 && (bt156.2.1 == t112 && (bt156.2.2.1 == t113 && (bt156.2.2.2.1 == t114 && (bt156.2.2.2.2.1 == t115 && (bt156.2.2.2.2.2 == t116))))))) else (some false)) else (some false)) else (some false)) else (some false)) else (some false))) else (none)))) else (none)))) else (none))))) else (none))) = some r := H
 have A6 := aM A60; clear A60
 obtain ⟨y118, hy118⟩ : ∃ y_ : List (S28), y_ = (([] : List (S28))) := ⟨_, rfl⟩
 replace H : (if y118.length + t107.length < 2513169434916 then ((some (y118 ++ t107 : List (S28))).bind fun y121 => ((paroleref32_Made.f k t104 a1_0 a1_1 a1_2 a1_3 a1_4 a1_5).bind fun bt124 => ((some (([(⟨bt124.1, bt124.2.1, bt124.2.2.1, bt124.2.2.2.1, bt124.2.2.2.2.1, bt124.2.2.2.2.2.1, bt124.2.2.2.2.2.2⟩ : S28)] : List (S28)) : List (S28))).bind fun y131 => (if y121.length + y131.length < 2513169434916 then ((field_Gather.f k t104 (y121 ++ y131) t110).bind fun bt137 => ((some (([] : List Int) : List Int)).bind fun y144 => (if y144.length + t104.length < 17592186044416 then ((some (y144 ++ t104 : List Int)).bind fun y147 => ((some (([3] : List Int) : List Int)).bind fun y150 => (if y147.length + y150.length < 17592186044416 then ((field_Gather.f k (y147 ++ y150) t107 t110).bind fun bt156 => (if t115 ≤ bt137.2.2.2.2.1 then (if t114 ≤ bt137.2.2.2.1 then (if t113 ≤ bt137.2.2.1 then (if t112 ≤ bt137.2.1 then (if bt137.2.1 ≤ (wrap64 (t112 + 1)) then (some (bt156.1 == t111 && (bt156.2.1 == t112 && (bt156.2.2.1 == t113 && (bt156.2.2.2.1 == t114 && (bt156.2.2.2.2.1 == t115 && (bt156.2.2.2.2.2 == t116))))))) else (some false)) else (some false)) else (some false)) else (some false)) else (some false))) else (none)))) else (none)))) else (none))))) else (none)) = some r := by first | (rw [hy118]; with_reducible exact H) | (have H2_ := (Option.bind_some _ _).symm.trans H; rw [hy118]; with_reducible exact H2_) | (have H2_ := (Option.bind_some _ _).symm.trans H; with_reducible exact H2_) | with_reducible exact H | (rw [hy118]; exact H) | exact H
 have Ny118 := aM hy118; clear hy118
 by_cases c7 : y118.length + t107.length < 2513169434916
 rotate_left
 ·rw [if_neg c7] at H
  exact absurd H (by simp)
 rw [if_pos c7] at H
 have LMc7 := aM c7; clear c7
 obtain ⟨y121, hy121⟩ : ∃ y_ : List (S28), y_ = (y118 ++ t107) := ⟨_, rfl⟩
 replace H : ((paroleref32_Made.f k t104 a1_0 a1_1 a1_2 a1_3 a1_4 a1_5).bind fun bt124 => ((some (([(⟨bt124.1, bt124.2.1, bt124.2.2.1, bt124.2.2.2.1, bt124.2.2.2.2.1, bt124.2.2.2.2.2.1, bt124.2.2.2.2.2.2⟩ : S28)] : List (S28)) : List (S28))).bind fun y131 => (if y121.length + y131.length < 2513169434916 then ((field_Gather.f k t104 (y121 ++ y131) t110).bind fun bt137 => ((some (([] : List Int) : List Int)).bind fun y144 => (if y144.length + t104.length < 17592186044416 then ((some (y144 ++ t104 : List Int)).bind fun y147 => ((some (([3] : List Int) : List Int)).bind fun y150 => (if y147.length + y150.length < 17592186044416 then ((field_Gather.f k (y147 ++ y150) t107 t110).bind fun bt156 => (if t115 ≤ bt137.2.2.2.2.1 then (if t114 ≤ bt137.2.2.2.1 then (if t113 ≤ bt137.2.2.1 then (if t112 ≤ bt137.2.1 then (if bt137.2.1 ≤ (wrap64 (t112 + 1)) then (some (bt156.1 == t111 && (bt156.2.1 == t112 && (bt156.2.2.1 == t113 && (bt156.2.2.2.1 == t114 && (bt156.2.2.2.2.1 == t115 && (bt156.2.2.2.2.2 == t116))))))) else (some false)) else (some false)) else (some false)) else (some false)) else (some false))) else (none)))) else (none)))) else (none)))) = some r := by first | (rw [hy121]; with_reducible exact H) | (have H2_ := (Option.bind_some _ _).symm.trans H; rw [hy121]; with_reducible exact H2_) | (have H2_ := (Option.bind_some _ _).symm.trans H; with_reducible exact H2_) | with_reducible exact H | (rw [hy121]; exact H) | exact H
 have Ny121 := aM hy121; clear hy121; replace H := Option.bind_eq_some_iff.mp H
 obtain ⟨⟨t124, t125, t126, t127, t128, t129, t130⟩, A80, H⟩ := H
 replace H : ((some (([(⟨t124, t125, t126, t127, t128, t129, t130⟩ : S28)] : List (S28)) : List (S28))).bind fun y131 => (if y121.length + y131.length < 2513169434916 then ((field_Gather.f k t104 (y121 ++ y131) t110).bind fun bt137 => ((some (([] : List Int) : List Int)).bind fun y144 => (if y144.length + t104.length < 17592186044416 then ((some (y144 ++ t104 : List Int)).bind fun y147 => ((some (([3] : List Int) : List Int)).bind fun y150 => (if y147.length + y150.length < 17592186044416 then ((field_Gather.f k (y147 ++ y150) t107 t110).bind fun bt156 => (if t115 ≤ bt137.2.2.2.2.1 then (if t114 ≤ bt137.2.2.2.1 then (if t113 ≤ bt137.2.2.1 then (if t112 ≤ bt137.2.1 then (if bt137.2.1 ≤ (wrap64 (t112 + 1)) then (some (bt156.1 == t111 && (bt156.2.1 == t112 && (bt156.2.2.1 == t113 && (bt156.2.2.2.1 == t114 && (bt156.2.2.2.2.1 == t115 && (bt156.2.2.2.2.2 == t116))))))) else (some false)) else (some false)) else (some false)) else (some false)) else (some false))) else (none)))) else (none)))) else (none))) = some r := H
 have A8 := aM A80; clear A80
 obtain ⟨y131, hy131⟩ : ∃ y_ : List (S28), y_ = (([(⟨t124, t125, t126, t127, t128, t129, t130⟩ : S28)] : List (S28))) := ⟨_, rfl⟩
 replace H : (if y121.length + y131.length < 2513169434916 then ((field_Gather.f k t104 (y121 ++ y131) t110).bind fun bt137 => ((some (([] : List Int) : List Int)).bind fun y144 => (if y144.length + t104.length < 17592186044416 then ((some (y144 ++ t104 : List Int)).bind fun y147 => ((some (([3] : List Int) : List Int)).bind fun y150 => (if y147.length + y150.length < 17592186044416 then ((field_Gather.f k (y147 ++ y150) t107 t110).bind fun bt156 => (if t115 ≤ bt137.2.2.2.2.1 then (if t114 ≤ bt137.2.2.2.1 then (if t113 ≤ bt137.2.2.1 then (if t112 ≤ bt137.2.1 then (if bt137.2.1 ≤ (wrap64 (t112 + 1)) then (some (bt156.1 == t111 && (bt156.2.1 == t112 && (bt156.2.2.1 == t113 && (bt156.2.2.2.1 == t114 && (bt156.2.2.2.2.1 == t115 && (bt156.2.2.2.2.2 == t116))))))) else (some false)) else (some false)) else (some false)) else (some false)) else (some false))) else (none)))) else (none)))) else (none)) = some r := by first | (rw [hy131]; with_reducible exact H) | (have H2_ := (Option.bind_some _ _).symm.trans H; rw [hy131]; with_reducible exact H2_) | (have H2_ := (Option.bind_some _ _).symm.trans H; with_reducible exact H2_) | with_reducible exact H | (rw [hy131]; exact H) | exact H
 have Ny131 := aM hy131; clear hy131
 by_cases c9 : y121.length + y131.length < 2513169434916
 rotate_left
 ·rw [if_neg c9] at H
  exact absurd H (by simp)
 rw [if_pos c9] at H
 have LMc9 := aM c9; clear c9
 obtain ⟨y134, hy134⟩ : ∃ y_ : List (S28), y_ = (y121 ++ y131) := ⟨_, rfl⟩
 replace H : ((field_Gather.f k t104 y134 t110).bind fun bt137 => ((some (([] : List Int) : List Int)).bind fun y144 => (if y144.length + t104.length < 17592186044416 then ((some (y144 ++ t104 : List Int)).bind fun y147 => ((some (([3] : List Int) : List Int)).bind fun y150 => (if y147.length + y150.length < 17592186044416 then ((field_Gather.f k (y147 ++ y150) t107 t110).bind fun bt156 => (if t115 ≤ bt137.2.2.2.2.1 then (if t114 ≤ bt137.2.2.2.1 then (if t113 ≤ bt137.2.2.1 then (if t112 ≤ bt137.2.1 then (if bt137.2.1 ≤ (wrap64 (t112 + 1)) then (some (bt156.1 == t111 && (bt156.2.1 == t112 && (bt156.2.2.1 == t113 && (bt156.2.2.2.1 == t114 && (bt156.2.2.2.2.1 == t115 && (bt156.2.2.2.2.2 == t116))))))) else (some false)) else (some false)) else (some false)) else (some false)) else (some false))) else (none)))) else (none)))) = some r := by first | (rw [hy134]; with_reducible exact H) | (have H2_ := (Option.bind_some _ _).symm.trans H; rw [hy134]; with_reducible exact H2_) | (have H2_ := (Option.bind_some _ _).symm.trans H; with_reducible exact H2_) | with_reducible exact H | (rw [hy134]; exact H) | exact H
 have Ny134 := aM hy134; clear hy134; replace H := Option.bind_eq_some_iff.mp H
 obtain ⟨⟨t137, t138, t139, t140, t141, t142⟩, A100, H⟩ := H
 replace H : ((some (([] : List Int) : List Int)).bind fun y144 => (if y144.length + t104.length < 17592186044416 then ((some (y144 ++ t104 : List Int)).bind fun y147 => ((some (([3] : List Int) : List Int)).bind fun y150 => (if y147.length + y150.length < 17592186044416 then ((field_Gather.f k (y147 ++ y150) t107 t110).bind fun bt156 => (if t115 ≤ t141 then (if t114 ≤ t140 then (if t113 ≤ t139 then (if t112 ≤ t138 then (if t138 ≤ (wrap64 (t112 + 1)) then (some (bt156.1 == t111 && (bt156.2.1 == t112 && (bt156.2.2.1 == t113 && (bt156.2.2.2.1 == t114 && (bt156.2.2.2.2.1 == t115 && (bt156.2.2.2.2.2 == t116))))))) else (some false)) else (some false)) else (some false)) else (some false)) else (some false))) else (none)))) else (none))) = some r := H
 have A10 := aM A100; clear A100
 obtain ⟨y144, hy144⟩ : ∃ y_ : List Int, y_ = (([] : List Int)) := ⟨_, rfl⟩
 replace H : (if y144.length + t104.length < 17592186044416 then ((some (y144 ++ t104 : List Int)).bind fun y147 => ((some (([3] : List Int) : List Int)).bind fun y150 => (if y147.length + y150.length < 17592186044416 then ((field_Gather.f k (y147 ++ y150) t107 t110).bind fun bt156 => (if t115 ≤ t141 then (if t114 ≤ t140 then (if t113 ≤ t139 then (if t112 ≤ t138 then (if t138 ≤ (wrap64 (t112 + 1)) then (some (bt156.1 == t111 && (bt156.2.1 == t112 && (bt156.2.2.1 == t113 && (bt156.2.2.2.1 == t114 && (bt156.2.2.2.2.1 == t115 && (bt156.2.2.2.2.2 == t116))))))) else (some false)) else (some false)) else (some false)) else (some false)) else (some false))) else (none)))) else (none)) = some r := by first | (rw [hy144]; with_reducible exact H) | (have H2_ := (Option.bind_some _ _).symm.trans H; rw [hy144]; with_reducible exact H2_) | (have H2_ := (Option.bind_some _ _).symm.trans H; with_reducible exact H2_) | with_reducible exact H | (rw [hy144]; exact H) | exact H
 have Ny144 := aM hy144; clear hy144
 by_cases c11 : y144.length + t104.length < 17592186044416
 rotate_left
 ·rw [if_neg c11] at H
  exact absurd H (by simp)
 rw [if_pos c11] at H
 have LMc11 := aM c11; clear c11
 obtain ⟨y147, hy147⟩ : ∃ y_ : List Int, y_ = (y144 ++ t104) := ⟨_, rfl⟩
 replace H : ((some (([3] : List Int) : List Int)).bind fun y150 => (if y147.length + y150.length < 17592186044416 then ((field_Gather.f k (y147 ++ y150) t107 t110).bind fun bt156 => (if t115 ≤ t141 then (if t114 ≤ t140 then (if t113 ≤ t139 then (if t112 ≤ t138 then (if t138 ≤ (wrap64 (t112 + 1)) then (some (bt156.1 == t111 && (bt156.2.1 == t112 && (bt156.2.2.1 == t113 && (bt156.2.2.2.1 == t114 && (bt156.2.2.2.2.1 == t115 && (bt156.2.2.2.2.2 == t116))))))) else (some false)) else (some false)) else (some false)) else (some false)) else (some false))) else (none))) = some r := by first | (rw [hy147]; with_reducible exact H) | (have H2_ := (Option.bind_some _ _).symm.trans H; rw [hy147]; with_reducible exact H2_) | (have H2_ := (Option.bind_some _ _).symm.trans H; with_reducible exact H2_) | with_reducible exact H | (rw [hy147]; exact H) | exact H
 have Ny147 := aM hy147; clear hy147
 obtain ⟨y150, hy150⟩ : ∃ y_ : List Int, y_ = (([3] : List Int)) := ⟨_, rfl⟩
 replace H : (if y147.length + y150.length < 17592186044416 then ((field_Gather.f k (y147 ++ y150) t107 t110).bind fun bt156 => (if t115 ≤ t141 then (if t114 ≤ t140 then (if t113 ≤ t139 then (if t112 ≤ t138 then (if t138 ≤ (wrap64 (t112 + 1)) then (some (bt156.1 == t111 && (bt156.2.1 == t112 && (bt156.2.2.1 == t113 && (bt156.2.2.2.1 == t114 && (bt156.2.2.2.2.1 == t115 && (bt156.2.2.2.2.2 == t116))))))) else (some false)) else (some false)) else (some false)) else (some false)) else (some false))) else (none)) = some r := by first | (rw [hy150]; with_reducible exact H) | (have H2_ := (Option.bind_some _ _).symm.trans H; rw [hy150]; with_reducible exact H2_) | (have H2_ := (Option.bind_some _ _).symm.trans H; with_reducible exact H2_) | with_reducible exact H | (rw [hy150]; exact H) | exact H
 have Ny150 := aM hy150; clear hy150
 by_cases c12 : y147.length + y150.length < 17592186044416
 rotate_left
 ·rw [if_neg c12] at H
  exact absurd H (by simp)
 rw [if_pos c12] at H
 have LMc12 := aM c12; clear c12
 obtain ⟨y153, hy153⟩ : ∃ y_ : List Int, y_ = (y147 ++ y150) := ⟨_, rfl⟩
 replace H : ((field_Gather.f k y153 t107 t110).bind fun bt156 => (if t115 ≤ t141 then (if t114 ≤ t140 then (if t113 ≤ t139 then (if t112 ≤ t138 then (if t138 ≤ (wrap64 (t112 + 1)) then (some (bt156.1 == t111 && (bt156.2.1 == t112 && (bt156.2.2.1 == t113 && (bt156.2.2.2.1 == t114 && (bt156.2.2.2.2.1 == t115 && (bt156.2.2.2.2.2 == t116))))))) else (some false)) else (some false)) else (some false)) else (some false)) else (some false))) = some r := by first | (rw [hy153]; with_reducible exact H) | (have H2_ := (Option.bind_some _ _).symm.trans H; rw [hy153]; with_reducible exact H2_) | (have H2_ := (Option.bind_some _ _).symm.trans H; with_reducible exact H2_) | with_reducible exact H | (rw [hy153]; exact H) | exact H
 have Ny153 := aM hy153; clear hy153; replace H := Option.bind_eq_some_iff.mp H
 obtain ⟨⟨t156, t157, t158, t159, t160, t161⟩, A130, H⟩ := H
 replace H : (if t115 ≤ t141 then (if t114 ≤ t140 then (if t113 ≤ t139 then (if t112 ≤ t138 then (if t138 ≤ (wrap64 (t112 + 1)) then (some (t156 == t111 && (t157 == t112 && (t158 == t113 && (t159 == t114 && (t160 == t115 && (t161 == t116))))))) else (some false)) else (some false)) else (some false)) else (some false)) else (some false)) = some r := H
 have A13 := aM A130; clear A130
 by_cases c14 : t115 ≤ t141
 rotate_left
 ·rw [if_neg c14] at H
  have c14b0 : decide (t115 ≤ t141) = false := decide_eq_false c14
  clear c14
  exact absurd ((Option.some.inj H).trans HT.out) (by decide)
 rw [if_pos c14] at H
 have c14b0 : decide (t115 ≤ t141) = true := decide_eq_true c14
 clear c14
 by_cases c15 : t114 ≤ t140
 rotate_left
 ·rw [if_neg c15] at H
  have c15b0 : decide (t114 ≤ t140) = false := decide_eq_false c15
  clear c15
  exact absurd ((Option.some.inj H).trans HT.out) (by decide)
 rw [if_pos c15] at H
 have c15b0 : decide (t114 ≤ t140) = true := decide_eq_true c15
 clear c15
 by_cases c16 : t113 ≤ t139
 rotate_left
 ·rw [if_neg c16] at H
  have c16b0 : decide (t113 ≤ t139) = false := decide_eq_false c16
  clear c16
  exact absurd ((Option.some.inj H).trans HT.out) (by decide)
 rw [if_pos c16] at H
 have c16b0 : decide (t113 ≤ t139) = true := decide_eq_true c16
 clear c16
 by_cases c17 : t112 ≤ t138
 rotate_left
 ·rw [if_neg c17] at H
  have c17b0 : decide (t112 ≤ t138) = false := decide_eq_false c17
  clear c17
  exact absurd ((Option.some.inj H).trans HT.out) (by decide)
 rw [if_pos c17] at H
 have c17b0 : decide (t112 ≤ t138) = true := decide_eq_true c17
 clear c17
 by_cases c18 : t138 ≤ (wrap64 (t112 + 1))
 rotate_left
 ·rw [if_neg c18] at H
  have c18b0 : decide (t138 ≤ (wrap64 (t112 + 1))) = false := decide_eq_false c18
  clear c18
  exact absurd ((Option.some.inj H).trans HT.out) (by decide)
 rw [if_pos c18] at H
 have c18b0 : decide (t138 ≤ (wrap64 (t112 + 1))) = true := decide_eq_true c18
 clear c18
 obtain rfl := Option.some.inj H
 go_enter Try.func7, Try.ntmps7
 try go_wp2_with (first | ((with_reducible refine gate_dst (N := 2) rfl ?_); refine bE (N := 2) (cs := #[.int .u8 a0_0, .slice A0_1 l0_1.length c0_1, .int .u8 a0_2]) (t := 24) ?_; intro gb101 hg w19 hbox hb; have BK101 := aM (hbox); have GW101 := gE hg HB; have GE101 := gE hg HB; replace HB := sB HB hb; clear hb hbox hg) | ((with_reducible refine gate_dst (N := 3) rfl ?_); refine bE (N := 3) (cs := #[.int .u8 a1_0, .int .u8 a1_1, .int .u8 a1_2, .int .u8 a1_3, .int .u8 a1_4, .int .u8 a1_5]) (t := 58) ?_; intro gb102 hg w20 hbox hb; have BK102 := aM (hbox); have GW102 := gE hg HB; have GE102 := gE hg HB; have NB101_102 := nL hg BK101; replace BK101 := bB BK101 hb; replace HB := sB HB hb; clear hb hbox hg) | ((with_reducible refine gate_callee (f := 10) rfl ?_); refine gL (some 12) Try.func10 #[] ?_; (with_reducible refine (parolelaw32_examples.calls  true _ A3.out).mono ?_); rintro e w21 ⟨rfl, hb⟩; refine ⟨_, rfl, ?_⟩; replace BK101 := bB BK101 hb; replace BK102 := bB BK102 hb; replace HB := sB HB hb; (try clear hb); have hnb22 := NB101_102.out; have hnc22 := NB101_102.out.symm; obtain ⟨hcz23_0, hcz23_1, hcz23_2, hfz23_0, hfz23_1, hfz23_2⟩ := cZ3 BK101) | ((with_reducible refine gate_callee (f := 11) rfl ?_); refine gL (some 17) Try.func11 #[.agg #[.int .u8 a0_0, .slice A0_1 l0_1.length c0_1, .int .u8 a0_2]] ?_; (with_reducible refine (parolelaw32_made.calls k a0_0 _ _ l0_1 a0_2 t104 t107 t110 _ ?side1 ?side2 A5.out).mono ?_); (case side1 => exact cC HR0_1 HB); (case side2 => exact HC0_1.out); rintro e w24 ⟨v105, v108, rfl, ho0, ho1, hb⟩; refine ⟨_, rfl, ?_⟩; have HO106 := rL (n := 0) ho0 HB; have HO109 := rL (n := 0) ho1 HB; replace BK101 := bB BK101 hb; replace BK102 := bB BK102 hb; replace HB := sB HB hb; (try clear hb); (try clear ho0); (try clear ho1); obtain ⟨Ao25, co25, eo25⟩ := Kd.R_slice HO106.out; subst eo25; obtain ⟨Ao26, co26, eo26⟩ := Kd.R_slice HO109.out; subst eo26) | ((with_reducible refine gate_callee (f := 19) rfl ?_); refine gL (some 24) Try.func19 #[.slice Ao25 t104.length co25, .slice Ao26 t107.length co26, .int .i64 t110] ?_; (with_reducible refine (field_Gather.calls k _ _ t104 _ _ t107 t110 t111 t112 t113 t114 t115 t116 _ ?side1 ?side2 ?side3 ?side4 A6.out).mono ?_); (case side1 => exact rC HO106); (case side2 => exact rN HO106); (case side3 => exact rC HO109); (case side4 => exact rN HO109); rintro e w27 ⟨rfl, hb⟩; refine ⟨_, rfl, ?_⟩; replace HO106 := rB HO106 hb; replace HO109 := rB HO109 hb; replace BK101 := bB BK101 hb; replace BK102 := bB BK102 hb; replace HB := sB HB hb; (try clear hb)) | ((with_reducible refine gate_dst (N := 9) rfl ?_); refine bE (N := 9) (cs := #[.int .i64 0, .int .i64 0, .int .i64 0, .int .i64 0, .int .i64 0, .int .i64 0]) (t := 40) ?_; intro gb117 hg w28 hbox hb; have BK117 := aM (hbox); have GW117 := gE hg HB; have GE117 := gE hg HB; have NB101_117 := nL hg BK101; have NB102_117 := nL hg BK102; replace HO106 := rB HO106 hb; replace HO109 := rB HO109 hb; replace BK101 := bB BK101 hb; replace BK102 := bB BK102 hb; replace HB := sB HB hb; clear hb hbox hg; have hnb29 := NB101_117.out.symm; have hnc29 := NB101_117.out; have hnb30 := NB102_117.out.symm; have hnc30 := NB102_117.out; obtain ⟨hcz31_0, hcz31_1, hcz31_2, hcz31_3, hcz31_4, hcz31_5, hfz31_0, hfz31_1, hfz31_2, hfz31_3, hfz31_4, hfz31_5⟩ := cZ6 BK117))
 have n0_ : Aside0 (Kd.R (Kd.int .u64) 26 ((((((w28.setCell ⟨gb117, 0, none⟩ (.int .i64 t111)).setCell ⟨gb117, 1, none⟩ (.int .i64 t112)).setCell ⟨gb117, 2, none⟩ (.int .i64 t113)).setCell ⟨gb117, 3, none⟩ (.int .i64 t114)).setCell ⟨gb117, 4, none⟩ (.int .i64 t115)).setCell ⟨gb117, 5, none⟩ (.int .i64 t116)) w.heap.size (fun _ => True) (.slice Ao25 t104.length co25) t104) := ⟨by (with_reducible repeat (first | apply Kd.R_alloc | apply Kd.R_drewN | apply Kd.R_drew)); exact Kd.R_mono (Kd.R_far (p := ⟨gb117, 5, none⟩) (Kd.R_far (p := ⟨gb117, 4, none⟩) (Kd.R_far (p := ⟨gb117, 3, none⟩) (Kd.R_far (p := ⟨gb117, 2, none⟩) (Kd.R_far (p := ⟨gb117, 1, none⟩) (Kd.R_far (p := ⟨gb117, 0, none⟩) (Kd.R_types HO106.out BK117.out (by decide)) (fun _ hk => hk.2) (.int .i64 t111)) (fun _ hk => hk.2) (.int .i64 t112)) (fun _ hk => hk.2) (.int .i64 t113)) (fun _ hk => hk.2) (.int .i64 t114)) (fun _ hk => hk.2) (.int .i64 t115)) (fun _ hk => hk.2) (.int .i64 t116)) (fun _ hk => trivial)⟩
 have n1_ : Aside0 (Kd.R k28 28 ((((((w28.setCell ⟨gb117, 0, none⟩ (.int .i64 t111)).setCell ⟨gb117, 1, none⟩ (.int .i64 t112)).setCell ⟨gb117, 2, none⟩ (.int .i64 t113)).setCell ⟨gb117, 3, none⟩ (.int .i64 t114)).setCell ⟨gb117, 4, none⟩ (.int .i64 t115)).setCell ⟨gb117, 5, none⟩ (.int .i64 t116)) w.heap.size (fun _ => True) (.slice Ao26 t107.length co26) t107) := ⟨by (with_reducible repeat (first | apply Kd.R_alloc | apply Kd.R_drewN | apply Kd.R_drew)); exact Kd.R_mono (Kd.R_far (p := ⟨gb117, 5, none⟩) (Kd.R_far (p := ⟨gb117, 4, none⟩) (Kd.R_far (p := ⟨gb117, 3, none⟩) (Kd.R_far (p := ⟨gb117, 2, none⟩) (Kd.R_far (p := ⟨gb117, 1, none⟩) (Kd.R_far (p := ⟨gb117, 0, none⟩) (Kd.R_types HO109.out BK117.out (by decide)) (fun _ hk => hk.2) (.int .i64 t111)) (fun _ hk => hk.2) (.int .i64 t112)) (fun _ hk => hk.2) (.int .i64 t113)) (fun _ hk => hk.2) (.int .i64 t114)) (fun _ hk => hk.2) (.int .i64 t115)) (fun _ hk => hk.2) (.int .i64 t116)) (fun _ hk => trivial)⟩
 have n2_ : Aside0 (((((((w28.setCell ⟨gb117, 0, none⟩ (.int .i64 t111)).setCell ⟨gb117, 1, none⟩ (.int .i64 t112)).setCell ⟨gb117, 2, none⟩ (.int .i64 t113)).setCell ⟨gb117, 3, none⟩ (.int .i64 t114)).setCell ⟨gb117, 4, none⟩ (.int .i64 t115)).setCell ⟨gb117, 5, none⟩ (.int .i64 t116)).heap[gb101]? = some (.cells #[.int .u8 a0_0, .slice A0_1 l0_1.length c0_1, .int .u8 a0_2] 24 (0, 0))) := ⟨bF BK101⟩
 have n3_ : Aside0 (((((((w28.setCell ⟨gb117, 0, none⟩ (.int .i64 t111)).setCell ⟨gb117, 1, none⟩ (.int .i64 t112)).setCell ⟨gb117, 2, none⟩ (.int .i64 t113)).setCell ⟨gb117, 3, none⟩ (.int .i64 t114)).setCell ⟨gb117, 4, none⟩ (.int .i64 t115)).setCell ⟨gb117, 5, none⟩ (.int .i64 t116)).heap[gb102]? = some (.cells #[.int .u8 a1_0, .int .u8 a1_1, .int .u8 a1_2, .int .u8 a1_3, .int .u8 a1_4, .int .u8 a1_5] 58 (0, 0))) := ⟨bF BK102⟩
 have n4_ : Aside0 (((((((w28.setCell ⟨gb117, 0, none⟩ (.int .i64 t111)).setCell ⟨gb117, 1, none⟩ (.int .i64 t112)).setCell ⟨gb117, 2, none⟩ (.int .i64 t113)).setCell ⟨gb117, 3, none⟩ (.int .i64 t114)).setCell ⟨gb117, 4, none⟩ (.int .i64 t115)).setCell ⟨gb117, 5, none⟩ (.int .i64 t116)).heap[gb117]? = some (.cells #[.int .i64 t111, .int .i64 t112, .int .i64 t113, .int .i64 t114, .int .i64 t115, .int .i64 t116] 40 (0, 0))) := ⟨by refine bM ?_; refine blk_put (cs := #[.int .i64 t111, .int .i64 t112, .int .i64 t113, .int .i64 t114, .int .i64 t115, .int .i64 0]) ?_ 5 _ rfl; refine bM ?_; refine blk_put (cs := #[.int .i64 t111, .int .i64 t112, .int .i64 t113, .int .i64 t114, .int .i64 0, .int .i64 0]) ?_ 4 _ rfl; refine bM ?_; refine blk_put (cs := #[.int .i64 t111, .int .i64 t112, .int .i64 t113, .int .i64 0, .int .i64 0, .int .i64 0]) ?_ 3 _ rfl; refine bM ?_; refine blk_put (cs := #[.int .i64 t111, .int .i64 t112, .int .i64 0, .int .i64 0, .int .i64 0, .int .i64 0]) ?_ 2 _ rfl; refine bM ?_; refine blk_put (cs := #[.int .i64 t111, .int .i64 0, .int .i64 0, .int .i64 0, .int .i64 0, .int .i64 0]) ?_ 1 _ rfl; refine bM ?_; refine blk_put (cs := #[.int .i64 0, .int .i64 0, .int .i64 0, .int .i64 0, .int .i64 0, .int .i64 0]) ?_ 0 _ rfl; exact bD BK117⟩
 have n5_ : Aside0 (Below w.heap.size w ((((((w28.setCell ⟨gb117, 0, none⟩ (.int .i64 t111)).setCell ⟨gb117, 1, none⟩ (.int .i64 t112)).setCell ⟨gb117, 2, none⟩ (.int .i64 t113)).setCell ⟨gb117, 3, none⟩ (.int .i64 t114)).setCell ⟨gb117, 4, none⟩ (.int .i64 t115)).setCell ⟨gb117, 5, none⟩ (.int .i64 t116))) := ⟨sD HB⟩
 (try clear HO106); (try clear HO109); (try clear BK101); (try clear BK102); (try clear BK117); (try clear HB)
 generalize ((((((w28.setCell ⟨gb117, 0, none⟩ (.int .i64 t111)).setCell ⟨gb117, 1, none⟩ (.int .i64 t112)).setCell ⟨gb117, 2, none⟩ (.int .i64 t113)).setCell ⟨gb117, 3, none⟩ (.int .i64 t114)).setCell ⟨gb117, 4, none⟩ (.int .i64 t115)).setCell ⟨gb117, 5, none⟩ (.int .i64 t116)) = w32 at n0_ n1_ n2_ n3_ n4_ n5_ ⊢
 have HO106 := n0_; have HO109 := n1_; have BK101 := n2_; have BK102 := n3_; have BK117 := n4_; have HB := n5_; clear n0_ n1_ n2_ n3_ n4_ n5_; replace HO106 := aM (Kd.R_drew HO106.out); replace HO109 := aM (Kd.R_drew HO109.out); replace BK101 := aM (blk_drew BK101.out); replace BK102 := aM (blk_drew BK102.out); replace BK117 := aM (blk_drew BK117.out); replace HB := aM (below_drew1 HB.out)
 refine start_ (n := 13) (S := fun w' => w'.cell? ⟨gb102, 0, none⟩ = some (.int .u8 a1_0) ∧ w'.cell? ⟨gb102, 1, none⟩ = some (.int .u8 a1_1) ∧ w'.cell? ⟨gb102, 2, none⟩ = some (.int .u8 a1_2) ∧ w'.cell? ⟨gb102, 3, none⟩ = some (.int .u8 a1_3) ∧ w'.cell? ⟨gb102, 4, none⟩ = some (.int .u8 a1_4) ∧ w'.cell? ⟨gb102, 5, none⟩ = some (.int .u8 a1_5)) (ds := []) #[false, false, false, false, false, false, false, false, false, false, false, false, false] (by kernel_rfl) rfl rfl ⟨cE BK102 0, cE BK102 1, cE BK102 2, cE BK102 3, cE BK102 4, cE BK102 5⟩ (fun hHeld => ?_); refine with_tabW parolelaw32_FieldMore.tab6 parolelaw32_FieldMore.bits6 (fun HT_ HW_ => ?_)
 generalize w32.drew = w33 at HO106 HO109 BK101 BK102 BK117 HB hHeld ⊢
 refine pX (i := 0) (N := some 25) rfl rfl HT_ ?_
 refine pX (i := 2) (N := some 27) rfl rfl HT_ ?_
 refine pX (i := 4) (N := some 29) rfl rfl HT_ ?_
 refine pX (i := 9) (N := some 34) rfl rfl HT_ ?_
 refine tX (i := 5) (N := some 30) rfl rfl HT_ HW_ hHeld (Or.inl ⟨by rfl, by rintro w' ⟨s0, s1, s2, s3, s4, s5⟩; go_simp; with_reducible rfl⟩) ?_
 refine join_ (σ := Value × Value × Value × Value × Nat) 1 #[true, true, true, true, true, true, true, true, true, true, true, true, false] (fun s_ => [(26, s_.1), (28, s_.2.1), (31, .agg #[.int .i64 t124, .int .i64 t125, .int .i64 t126, .int .i64 t127, .int .i64 t128, .int .i64 t129, .int .u64 t130]), (32, s_.2.2.1), (33, s_.2.2.2.1), (35, .agg #[.int .i64 t137, .int .i64 t138, .int .i64 t139, .int .i64 t140, .int .i64 t141, .int .i64 t142]), (10, .pointer (some ⟨s_.2.2.2.2, 0, none⟩))]) (fun s_ w' => (w'.cell? ⟨gb102, 0, none⟩ = some (.int .u8 a1_0) ∧ w'.cell? ⟨gb102, 1, none⟩ = some (.int .u8 a1_1) ∧ w'.cell? ⟨gb102, 2, none⟩ = some (.int .u8 a1_2) ∧ w'.cell? ⟨gb102, 3, none⟩ = some (.int .u8 a1_3) ∧ w'.cell? ⟨gb102, 4, none⟩ = some (.int .u8 a1_4) ∧ w'.cell? ⟨gb102, 5, none⟩ = some (.int .u8 a1_5)) ∧ (Kd.R (Kd.int .u64) 26 w' w.heap.size (fun _ => True) (.slice Ao25 t104.length co25) t104) ∧ (Kd.R k28 28 w' w.heap.size (fun k_ => some k_ ≠ (s_.2.2.1 : Value).ownBlock ∧ some k_ ≠ (s_.2.2.2.1 : Value).ownBlock) (.slice Ao26 t107.length co26) t107) ∧ (Kd.R k28 28 w' w.heap.size (fun k_ => some k_ ≠ (.slice Ao26 t107.length co26 : Value).ownBlock ∧ some k_ ≠ (s_.2.2.2.1 : Value).ownBlock) s_.2.2.1 y131) ∧ (Kd.R k28 28 w' w.heap.size (fun k_ => some k_ ≠ (.slice Ao26 t107.length co26 : Value).ownBlock ∧ some k_ ≠ (s_.2.2.1 : Value).ownBlock) s_.2.2.2.1 y134) ∧ (w'.heap[gb101]? = some (.cells #[.int .u8 a0_0, .slice A0_1 l0_1.length c0_1, .int .u8 a0_2] 24 (0, 0))) ∧ (w'.heap[gb102]? = some (.cells #[.int .u8 a1_0, .int .u8 a1_1, .int .u8 a1_2, .int .u8 a1_3, .int .u8 a1_4, .int .u8 a1_5] 58 (0, 0))) ∧ (w'.heap[gb117]? = some (.cells #[.int .i64 t111, .int .i64 t112, .int .i64 t113, .int .i64 t114, .int .i64 t115, .int .i64 t116] 40 (0, 0))) ∧ (w'.heap[s_.2.2.2.2]? = some (.cells #[.int .i64 0, .int .i64 0, .int .i64 0, .int .i64 0, .int .i64 0, .int .i64 0] 40 (0, 0))) ∧ (w.heap.size ≤ s_.2.2.2.2) ∧ (w.heap.size ≤ s_.2.2.2.2) ∧ (gb101 ≠ s_.2.2.2.2) ∧ (gb102 ≠ s_.2.2.2.2) ∧ (gb117 ≠ s_.2.2.2.2) ∧ (Below w.heap.size w w')) ?_ ?_
 rotate_left
 ·intro hJ1_3_6_7_8_10_11
  refine join_ (σ := Value × Value × Value × Value) 2 #[true, true, true, true, true, true, true, true, true, true, true, false, false] (fun s_ => [(26, s_.1), (28, s_.2.1), (31, .agg #[.int .i64 t124, .int .i64 t125, .int .i64 t126, .int .i64 t127, .int .i64 t128, .int .i64 t129, .int .u64 t130]), (32, s_.2.2.1), (33, s_.2.2.2), (35, .agg #[.int .i64 t137, .int .i64 t138, .int .i64 t139, .int .i64 t140, .int .i64 t141, .int .i64 t142])]) (fun s_ w' => (w'.cell? ⟨gb102, 0, none⟩ = some (.int .u8 a1_0) ∧ w'.cell? ⟨gb102, 1, none⟩ = some (.int .u8 a1_1) ∧ w'.cell? ⟨gb102, 2, none⟩ = some (.int .u8 a1_2) ∧ w'.cell? ⟨gb102, 3, none⟩ = some (.int .u8 a1_3) ∧ w'.cell? ⟨gb102, 4, none⟩ = some (.int .u8 a1_4) ∧ w'.cell? ⟨gb102, 5, none⟩ = some (.int .u8 a1_5)) ∧ (Kd.R (Kd.int .u64) 26 w' w.heap.size (fun _ => True) (.slice Ao25 t104.length co25) t104) ∧ (Kd.R k28 28 w' w.heap.size (fun k_ => some k_ ≠ (s_.2.2.1 : Value).ownBlock ∧ some k_ ≠ (s_.2.2.2 : Value).ownBlock) (.slice Ao26 t107.length co26) t107) ∧ (Kd.R k28 28 w' w.heap.size (fun k_ => some k_ ≠ (.slice Ao26 t107.length co26 : Value).ownBlock ∧ some k_ ≠ (s_.2.2.2 : Value).ownBlock) s_.2.2.1 y131) ∧ (Kd.R k28 28 w' w.heap.size (fun k_ => some k_ ≠ (.slice Ao26 t107.length co26 : Value).ownBlock ∧ some k_ ≠ (s_.2.2.1 : Value).ownBlock) s_.2.2.2 y134) ∧ (w'.heap[gb101]? = some (.cells #[.int .u8 a0_0, .slice A0_1 l0_1.length c0_1, .int .u8 a0_2] 24 (0, 0))) ∧ (w'.heap[gb102]? = some (.cells #[.int .u8 a1_0, .int .u8 a1_1, .int .u8 a1_2, .int .u8 a1_3, .int .u8 a1_4, .int .u8 a1_5] 58 (0, 0))) ∧ (w'.heap[gb117]? = some (.cells #[.int .i64 t111, .int .i64 t112, .int .i64 t113, .int .i64 t114, .int .i64 t115, .int .i64 t116] 40 (0, 0))) ∧ (Below w.heap.size w w')) ?_ ?_
  rotate_left
  ·intro hJ1_3_6_7_8_10
   refine join_ (σ := Value × Value × Value × Value × Nat) 2 #[true, true, true, true, true, true, true, true, true, true, false, true, false] (fun s_ => [(26, s_.1), (28, s_.2.1), (31, .agg #[.int .i64 t124, .int .i64 t125, .int .i64 t126, .int .i64 t127, .int .i64 t128, .int .i64 t129, .int .u64 t130]), (32, s_.2.2.1), (33, s_.2.2.2.1), (10, .pointer (some ⟨s_.2.2.2.2, 0, none⟩))]) (fun s_ w' => (w'.cell? ⟨gb102, 0, none⟩ = some (.int .u8 a1_0) ∧ w'.cell? ⟨gb102, 1, none⟩ = some (.int .u8 a1_1) ∧ w'.cell? ⟨gb102, 2, none⟩ = some (.int .u8 a1_2) ∧ w'.cell? ⟨gb102, 3, none⟩ = some (.int .u8 a1_3) ∧ w'.cell? ⟨gb102, 4, none⟩ = some (.int .u8 a1_4) ∧ w'.cell? ⟨gb102, 5, none⟩ = some (.int .u8 a1_5)) ∧ (Kd.R (Kd.int .u64) 26 w' w.heap.size (fun _ => True) (.slice Ao25 t104.length co25) t104) ∧ (Kd.R k28 28 w' w.heap.size (fun k_ => some k_ ≠ (s_.2.2.1 : Value).ownBlock ∧ some k_ ≠ (s_.2.2.2.1 : Value).ownBlock) (.slice Ao26 t107.length co26) t107) ∧ (Kd.R k28 28 w' w.heap.size (fun k_ => some k_ ≠ (.slice Ao26 t107.length co26 : Value).ownBlock ∧ some k_ ≠ (s_.2.2.2.1 : Value).ownBlock) s_.2.2.1 y131) ∧ (Kd.R k28 28 w' w.heap.size (fun k_ => some k_ ≠ (.slice Ao26 t107.length co26 : Value).ownBlock ∧ some k_ ≠ (s_.2.2.1 : Value).ownBlock) s_.2.2.2.1 y134) ∧ (w'.heap[gb101]? = some (.cells #[.int .u8 a0_0, .slice A0_1 l0_1.length c0_1, .int .u8 a0_2] 24 (0, 0))) ∧ (w'.heap[gb102]? = some (.cells #[.int .u8 a1_0, .int .u8 a1_1, .int .u8 a1_2, .int .u8 a1_3, .int .u8 a1_4, .int .u8 a1_5] 58 (0, 0))) ∧ (w'.heap[gb117]? = some (.cells #[.int .i64 t111, .int .i64 t112, .int .i64 t113, .int .i64 t114, .int .i64 t115, .int .i64 t116] 40 (0, 0))) ∧ (w'.heap[s_.2.2.2.2]? = some (.cells #[.int .i64 0, .int .i64 0, .int .i64 0, .int .i64 0, .int .i64 0, .int .i64 0] 40 (0, 0))) ∧ (w.heap.size ≤ s_.2.2.2.2) ∧ (w.heap.size ≤ s_.2.2.2.2) ∧ (gb101 ≠ s_.2.2.2.2) ∧ (gb102 ≠ s_.2.2.2.2) ∧ (gb117 ≠ s_.2.2.2.2) ∧ (Below w.heap.size w w')) ?_ ?_
   rotate_left
   ·intro hJ1_3_6_7_8_11
    refine join_ (σ := Value × Value × Value × Value) 3 #[true, true, true, true, true, true, true, true, true, true, false, false, false] (fun s_ => [(26, s_.1), (28, s_.2.1), (31, .agg #[.int .i64 t124, .int .i64 t125, .int .i64 t126, .int .i64 t127, .int .i64 t128, .int .i64 t129, .int .u64 t130]), (32, s_.2.2.1), (33, s_.2.2.2)]) (fun s_ w' => (w'.cell? ⟨gb102, 0, none⟩ = some (.int .u8 a1_0) ∧ w'.cell? ⟨gb102, 1, none⟩ = some (.int .u8 a1_1) ∧ w'.cell? ⟨gb102, 2, none⟩ = some (.int .u8 a1_2) ∧ w'.cell? ⟨gb102, 3, none⟩ = some (.int .u8 a1_3) ∧ w'.cell? ⟨gb102, 4, none⟩ = some (.int .u8 a1_4) ∧ w'.cell? ⟨gb102, 5, none⟩ = some (.int .u8 a1_5)) ∧ (Kd.R (Kd.int .u64) 26 w' w.heap.size (fun _ => True) (.slice Ao25 t104.length co25) t104) ∧ (Kd.R k28 28 w' w.heap.size (fun k_ => some k_ ≠ (s_.2.2.1 : Value).ownBlock ∧ some k_ ≠ (s_.2.2.2 : Value).ownBlock) (.slice Ao26 t107.length co26) t107) ∧ (Kd.R k28 28 w' w.heap.size (fun k_ => some k_ ≠ (.slice Ao26 t107.length co26 : Value).ownBlock ∧ some k_ ≠ (s_.2.2.2 : Value).ownBlock) s_.2.2.1 y131) ∧ (Kd.R k28 28 w' w.heap.size (fun k_ => some k_ ≠ (.slice Ao26 t107.length co26 : Value).ownBlock ∧ some k_ ≠ (s_.2.2.1 : Value).ownBlock) s_.2.2.2 y134) ∧ (w'.heap[gb101]? = some (.cells #[.int .u8 a0_0, .slice A0_1 l0_1.length c0_1, .int .u8 a0_2] 24 (0, 0))) ∧ (w'.heap[gb102]? = some (.cells #[.int .u8 a1_0, .int .u8 a1_1, .int .u8 a1_2, .int .u8 a1_3, .int .u8 a1_4, .int .u8 a1_5] 58 (0, 0))) ∧ (w'.heap[gb117]? = some (.cells #[.int .i64 t111, .int .i64 t112, .int .i64 t113, .int .i64 t114, .int .i64 t115, .int .i64 t116] 40 (0, 0))) ∧ (Below w.heap.size w w')) ?_ ?_
    rotate_left
    ·intro hJ1_3_6_7_8
     refine join_ (σ := Value × Value × Value × Nat) 3 #[true, true, true, true, true, true, true, true, false, true, false, true, false] (fun s_ => [(26, s_.1), (28, s_.2.1), (31, .agg #[.int .i64 t124, .int .i64 t125, .int .i64 t126, .int .i64 t127, .int .i64 t128, .int .i64 t129, .int .u64 t130]), (32, s_.2.2.1), (10, .pointer (some ⟨s_.2.2.2, 0, none⟩))]) (fun s_ w' => (w'.cell? ⟨gb102, 0, none⟩ = some (.int .u8 a1_0) ∧ w'.cell? ⟨gb102, 1, none⟩ = some (.int .u8 a1_1) ∧ w'.cell? ⟨gb102, 2, none⟩ = some (.int .u8 a1_2) ∧ w'.cell? ⟨gb102, 3, none⟩ = some (.int .u8 a1_3) ∧ w'.cell? ⟨gb102, 4, none⟩ = some (.int .u8 a1_4) ∧ w'.cell? ⟨gb102, 5, none⟩ = some (.int .u8 a1_5)) ∧ (Kd.R (Kd.int .u64) 26 w' w.heap.size (fun _ => True) (.slice Ao25 t104.length co25) t104) ∧ (Kd.R k28 28 w' w.heap.size (fun k_ => some k_ ≠ (s_.2.1 : Value).ownBlock ∧ some k_ ≠ (s_.2.2.1 : Value).ownBlock) (.slice Ao26 t107.length co26) t107) ∧ (Kd.R k28 28 w' w.heap.size (fun k_ => some k_ ≠ (.slice Ao26 t107.length co26 : Value).ownBlock ∧ some k_ ≠ (s_.2.2.1 : Value).ownBlock) s_.2.1 y121) ∧ (Kd.R k28 28 w' w.heap.size (fun k_ => some k_ ≠ (.slice Ao26 t107.length co26 : Value).ownBlock ∧ some k_ ≠ (s_.2.1 : Value).ownBlock) s_.2.2.1 y131) ∧ (w'.heap[gb101]? = some (.cells #[.int .u8 a0_0, .slice A0_1 l0_1.length c0_1, .int .u8 a0_2] 24 (0, 0))) ∧ (w'.heap[gb102]? = some (.cells #[.int .u8 a1_0, .int .u8 a1_1, .int .u8 a1_2, .int .u8 a1_3, .int .u8 a1_4, .int .u8 a1_5] 58 (0, 0))) ∧ (w'.heap[gb117]? = some (.cells #[.int .i64 t111, .int .i64 t112, .int .i64 t113, .int .i64 t114, .int .i64 t115, .int .i64 t116] 40 (0, 0))) ∧ (w'.heap[s_.2.2.2]? = some (.cells #[.int .i64 0, .int .i64 0, .int .i64 0, .int .i64 0, .int .i64 0, .int .i64 0] 40 (0, 0))) ∧ (w.heap.size ≤ s_.2.2.2) ∧ (w.heap.size ≤ s_.2.2.2) ∧ (gb101 ≠ s_.2.2.2) ∧ (gb102 ≠ s_.2.2.2) ∧ (gb117 ≠ s_.2.2.2) ∧ (Below w.heap.size w w')) ?_ ?_
     rotate_left
     ·intro hJ1_3_6_7_11
      refine join_ (σ := Value × Value × Value) 4 #[true, true, true, true, true, true, true, true, false, true, false, false, false] (fun s_ => [(26, s_.1), (28, s_.2.1), (31, .agg #[.int .i64 t124, .int .i64 t125, .int .i64 t126, .int .i64 t127, .int .i64 t128, .int .i64 t129, .int .u64 t130]), (32, s_.2.2)]) (fun s_ w' => (w'.cell? ⟨gb102, 0, none⟩ = some (.int .u8 a1_0) ∧ w'.cell? ⟨gb102, 1, none⟩ = some (.int .u8 a1_1) ∧ w'.cell? ⟨gb102, 2, none⟩ = some (.int .u8 a1_2) ∧ w'.cell? ⟨gb102, 3, none⟩ = some (.int .u8 a1_3) ∧ w'.cell? ⟨gb102, 4, none⟩ = some (.int .u8 a1_4) ∧ w'.cell? ⟨gb102, 5, none⟩ = some (.int .u8 a1_5)) ∧ (Kd.R (Kd.int .u64) 26 w' w.heap.size (fun _ => True) (.slice Ao25 t104.length co25) t104) ∧ (Kd.R k28 28 w' w.heap.size (fun k_ => some k_ ≠ (s_.2.1 : Value).ownBlock ∧ some k_ ≠ (s_.2.2 : Value).ownBlock) (.slice Ao26 t107.length co26) t107) ∧ (Kd.R k28 28 w' w.heap.size (fun k_ => some k_ ≠ (.slice Ao26 t107.length co26 : Value).ownBlock ∧ some k_ ≠ (s_.2.2 : Value).ownBlock) s_.2.1 y121) ∧ (Kd.R k28 28 w' w.heap.size (fun k_ => some k_ ≠ (.slice Ao26 t107.length co26 : Value).ownBlock ∧ some k_ ≠ (s_.2.1 : Value).ownBlock) s_.2.2 y131) ∧ (w'.heap[gb101]? = some (.cells #[.int .u8 a0_0, .slice A0_1 l0_1.length c0_1, .int .u8 a0_2] 24 (0, 0))) ∧ (w'.heap[gb102]? = some (.cells #[.int .u8 a1_0, .int .u8 a1_1, .int .u8 a1_2, .int .u8 a1_3, .int .u8 a1_4, .int .u8 a1_5] 58 (0, 0))) ∧ (w'.heap[gb117]? = some (.cells #[.int .i64 t111, .int .i64 t112, .int .i64 t113, .int .i64 t114, .int .i64 t115, .int .i64 t116] 40 (0, 0))) ∧ (Below w.heap.size w w')) ?_ ?_
      rotate_left
      ·intro hJ1_3_6_7
       refine join_ (σ := Value × Value × Nat) 4 #[true, true, true, true, true, true, true, false, false, true, false, true, false] (fun s_ => [(26, s_.1), (28, s_.2.1), (31, .agg #[.int .i64 t124, .int .i64 t125, .int .i64 t126, .int .i64 t127, .int .i64 t128, .int .i64 t129, .int .u64 t130]), (10, .pointer (some ⟨s_.2.2, 0, none⟩))]) (fun s_ w' => (w'.cell? ⟨gb102, 0, none⟩ = some (.int .u8 a1_0) ∧ w'.cell? ⟨gb102, 1, none⟩ = some (.int .u8 a1_1) ∧ w'.cell? ⟨gb102, 2, none⟩ = some (.int .u8 a1_2) ∧ w'.cell? ⟨gb102, 3, none⟩ = some (.int .u8 a1_3) ∧ w'.cell? ⟨gb102, 4, none⟩ = some (.int .u8 a1_4) ∧ w'.cell? ⟨gb102, 5, none⟩ = some (.int .u8 a1_5)) ∧ (Kd.R (Kd.int .u64) 26 w' w.heap.size (fun _ => True) (.slice Ao25 t104.length co25) t104) ∧ (Kd.R k28 28 w' w.heap.size (fun k_ => some k_ ≠ (s_.2.1 : Value).ownBlock) (.slice Ao26 t107.length co26) t107) ∧ (Kd.R k28 28 w' w.heap.size (fun k_ => some k_ ≠ (.slice Ao26 t107.length co26 : Value).ownBlock) s_.2.1 y121) ∧ (w'.heap[gb101]? = some (.cells #[.int .u8 a0_0, .slice A0_1 l0_1.length c0_1, .int .u8 a0_2] 24 (0, 0))) ∧ (w'.heap[gb102]? = some (.cells #[.int .u8 a1_0, .int .u8 a1_1, .int .u8 a1_2, .int .u8 a1_3, .int .u8 a1_4, .int .u8 a1_5] 58 (0, 0))) ∧ (w'.heap[gb117]? = some (.cells #[.int .i64 t111, .int .i64 t112, .int .i64 t113, .int .i64 t114, .int .i64 t115, .int .i64 t116] 40 (0, 0))) ∧ (w'.heap[s_.2.2]? = some (.cells #[.int .i64 0, .int .i64 0, .int .i64 0, .int .i64 0, .int .i64 0, .int .i64 0] 40 (0, 0))) ∧ (w.heap.size ≤ s_.2.2) ∧ (w.heap.size ≤ s_.2.2) ∧ (gb101 ≠ s_.2.2) ∧ (gb102 ≠ s_.2.2) ∧ (gb117 ≠ s_.2.2) ∧ (Below w.heap.size w w')) ?_ ?_
       rotate_left
       ·intro hJ1_3_6_11
        refine join_ (σ := Value × Value) 5 #[true, true, true, true, true, true, true, false, false, true, false, false, false] (fun s_ => [(26, s_.1), (28, s_.2), (31, .agg #[.int .i64 t124, .int .i64 t125, .int .i64 t126, .int .i64 t127, .int .i64 t128, .int .i64 t129, .int .u64 t130])]) (fun s_ w' => (w'.cell? ⟨gb102, 0, none⟩ = some (.int .u8 a1_0) ∧ w'.cell? ⟨gb102, 1, none⟩ = some (.int .u8 a1_1) ∧ w'.cell? ⟨gb102, 2, none⟩ = some (.int .u8 a1_2) ∧ w'.cell? ⟨gb102, 3, none⟩ = some (.int .u8 a1_3) ∧ w'.cell? ⟨gb102, 4, none⟩ = some (.int .u8 a1_4) ∧ w'.cell? ⟨gb102, 5, none⟩ = some (.int .u8 a1_5)) ∧ (Kd.R (Kd.int .u64) 26 w' w.heap.size (fun _ => True) (.slice Ao25 t104.length co25) t104) ∧ (Kd.R k28 28 w' w.heap.size (fun k_ => some k_ ≠ (s_.2 : Value).ownBlock) (.slice Ao26 t107.length co26) t107) ∧ (Kd.R k28 28 w' w.heap.size (fun k_ => some k_ ≠ (.slice Ao26 t107.length co26 : Value).ownBlock) s_.2 y121) ∧ (w'.heap[gb101]? = some (.cells #[.int .u8 a0_0, .slice A0_1 l0_1.length c0_1, .int .u8 a0_2] 24 (0, 0))) ∧ (w'.heap[gb102]? = some (.cells #[.int .u8 a1_0, .int .u8 a1_1, .int .u8 a1_2, .int .u8 a1_3, .int .u8 a1_4, .int .u8 a1_5] 58 (0, 0))) ∧ (w'.heap[gb117]? = some (.cells #[.int .i64 t111, .int .i64 t112, .int .i64 t113, .int .i64 t114, .int .i64 t115, .int .i64 t116] 40 (0, 0))) ∧ (Below w.heap.size w w')) ?_ ?_
        rotate_left
        ·intro hJ1_3_6
         refine join_ (σ := Value × Value × Nat) 5 #[true, true, true, true, true, true, false, false, false, true, false, true, false] (fun s_ => [(26, s_.1), (28, s_.2.1), (10, .pointer (some ⟨s_.2.2, 0, none⟩))]) (fun s_ w' => (w'.cell? ⟨gb102, 0, none⟩ = some (.int .u8 a1_0) ∧ w'.cell? ⟨gb102, 1, none⟩ = some (.int .u8 a1_1) ∧ w'.cell? ⟨gb102, 2, none⟩ = some (.int .u8 a1_2) ∧ w'.cell? ⟨gb102, 3, none⟩ = some (.int .u8 a1_3) ∧ w'.cell? ⟨gb102, 4, none⟩ = some (.int .u8 a1_4) ∧ w'.cell? ⟨gb102, 5, none⟩ = some (.int .u8 a1_5)) ∧ (Kd.R (Kd.int .u64) 26 w' w.heap.size (fun _ => True) (.slice Ao25 t104.length co25) t104) ∧ (Kd.R k28 28 w' w.heap.size (fun k_ => some k_ ≠ (s_.2.1 : Value).ownBlock) (.slice Ao26 t107.length co26) t107) ∧ (Kd.R k28 28 w' w.heap.size (fun k_ => some k_ ≠ (.slice Ao26 t107.length co26 : Value).ownBlock) s_.2.1 y121) ∧ (w'.heap[gb101]? = some (.cells #[.int .u8 a0_0, .slice A0_1 l0_1.length c0_1, .int .u8 a0_2] 24 (0, 0))) ∧ (w'.heap[gb102]? = some (.cells #[.int .u8 a1_0, .int .u8 a1_1, .int .u8 a1_2, .int .u8 a1_3, .int .u8 a1_4, .int .u8 a1_5] 58 (0, 0))) ∧ (w'.heap[gb117]? = some (.cells #[.int .i64 t111, .int .i64 t112, .int .i64 t113, .int .i64 t114, .int .i64 t115, .int .i64 t116] 40 (0, 0))) ∧ (w'.heap[s_.2.2]? = some (.cells #[.int .i64 0, .int .i64 0, .int .i64 0, .int .i64 0, .int .i64 0, .int .i64 0] 40 (0, 0))) ∧ (w.heap.size ≤ s_.2.2) ∧ (w.heap.size ≤ s_.2.2) ∧ (gb101 ≠ s_.2.2) ∧ (gb102 ≠ s_.2.2) ∧ (gb117 ≠ s_.2.2) ∧ (Below w.heap.size w w')) ?_ ?_
         rotate_left
         ·intro hJ1_3_11
          refine join_ (σ := Value × Value) 6 #[true, true, true, true, true, true, false, false, false, true, false, false, false] (fun s_ => [(26, s_.1), (28, s_.2)]) (fun s_ w' => (w'.cell? ⟨gb102, 0, none⟩ = some (.int .u8 a1_0) ∧ w'.cell? ⟨gb102, 1, none⟩ = some (.int .u8 a1_1) ∧ w'.cell? ⟨gb102, 2, none⟩ = some (.int .u8 a1_2) ∧ w'.cell? ⟨gb102, 3, none⟩ = some (.int .u8 a1_3) ∧ w'.cell? ⟨gb102, 4, none⟩ = some (.int .u8 a1_4) ∧ w'.cell? ⟨gb102, 5, none⟩ = some (.int .u8 a1_5)) ∧ (Kd.R (Kd.int .u64) 26 w' w.heap.size (fun _ => True) (.slice Ao25 t104.length co25) t104) ∧ (Kd.R k28 28 w' w.heap.size (fun k_ => some k_ ≠ (s_.2 : Value).ownBlock) (.slice Ao26 t107.length co26) t107) ∧ (Kd.R k28 28 w' w.heap.size (fun k_ => some k_ ≠ (.slice Ao26 t107.length co26 : Value).ownBlock) s_.2 y121) ∧ (w'.heap[gb101]? = some (.cells #[.int .u8 a0_0, .slice A0_1 l0_1.length c0_1, .int .u8 a0_2] 24 (0, 0))) ∧ (w'.heap[gb102]? = some (.cells #[.int .u8 a1_0, .int .u8 a1_1, .int .u8 a1_2, .int .u8 a1_3, .int .u8 a1_4, .int .u8 a1_5] 58 (0, 0))) ∧ (w'.heap[gb117]? = some (.cells #[.int .i64 t111, .int .i64 t112, .int .i64 t113, .int .i64 t114, .int .i64 t115, .int .i64 t116] 40 (0, 0))) ∧ (Below w.heap.size w w')) ?_ ?_
          rotate_left
          ·intro hJ1_3
           refine join_ (σ := Value × Nat) 6 #[true, true, true, false, true, true, false, false, false, true, false, true, false] (fun s_ => [(26, s_.1), (10, .pointer (some ⟨s_.2, 0, none⟩))]) (fun s_ w' => (w'.cell? ⟨gb102, 0, none⟩ = some (.int .u8 a1_0) ∧ w'.cell? ⟨gb102, 1, none⟩ = some (.int .u8 a1_1) ∧ w'.cell? ⟨gb102, 2, none⟩ = some (.int .u8 a1_2) ∧ w'.cell? ⟨gb102, 3, none⟩ = some (.int .u8 a1_3) ∧ w'.cell? ⟨gb102, 4, none⟩ = some (.int .u8 a1_4) ∧ w'.cell? ⟨gb102, 5, none⟩ = some (.int .u8 a1_5)) ∧ (Kd.R (Kd.int .u64) 26 w' w.heap.size (fun _ => True) (.slice Ao25 t104.length co25) t104) ∧ (Kd.R k28 28 w' w.heap.size (fun k_ => some k_ ≠ (s_.1 : Value).ownBlock) (.slice Ao26 t107.length co26) t107) ∧ (Kd.R k28 28 w' w.heap.size (fun k_ => some k_ ≠ (.slice Ao26 t107.length co26 : Value).ownBlock) s_.1 y118) ∧ (w'.heap[gb101]? = some (.cells #[.int .u8 a0_0, .slice A0_1 l0_1.length c0_1, .int .u8 a0_2] 24 (0, 0))) ∧ (w'.heap[gb102]? = some (.cells #[.int .u8 a1_0, .int .u8 a1_1, .int .u8 a1_2, .int .u8 a1_3, .int .u8 a1_4, .int .u8 a1_5] 58 (0, 0))) ∧ (w'.heap[gb117]? = some (.cells #[.int .i64 t111, .int .i64 t112, .int .i64 t113, .int .i64 t114, .int .i64 t115, .int .i64 t116] 40 (0, 0))) ∧ (w'.heap[s_.2]? = some (.cells #[.int .i64 0, .int .i64 0, .int .i64 0, .int .i64 0, .int .i64 0, .int .i64 0] 40 (0, 0))) ∧ (w.heap.size ≤ s_.2) ∧ (w.heap.size ≤ s_.2) ∧ (gb101 ≠ s_.2) ∧ (gb102 ≠ s_.2) ∧ (gb117 ≠ s_.2) ∧ (Below w.heap.size w w')) ?_ ?_
           rotate_left
           ·intro hJ1_11
            refine join_ (σ := Value) 7 #[true, true, true, false, true, true, false, false, false, true, false, false, false] (fun s_ => [(26, s_)]) (fun s_ w' => (w'.cell? ⟨gb102, 0, none⟩ = some (.int .u8 a1_0) ∧ w'.cell? ⟨gb102, 1, none⟩ = some (.int .u8 a1_1) ∧ w'.cell? ⟨gb102, 2, none⟩ = some (.int .u8 a1_2) ∧ w'.cell? ⟨gb102, 3, none⟩ = some (.int .u8 a1_3) ∧ w'.cell? ⟨gb102, 4, none⟩ = some (.int .u8 a1_4) ∧ w'.cell? ⟨gb102, 5, none⟩ = some (.int .u8 a1_5)) ∧ (Kd.R (Kd.int .u64) 26 w' w.heap.size (fun _ => True) (.slice Ao25 t104.length co25) t104) ∧ (Kd.R k28 28 w' w.heap.size (fun k_ => some k_ ≠ (s_ : Value).ownBlock) (.slice Ao26 t107.length co26) t107) ∧ (Kd.R k28 28 w' w.heap.size (fun k_ => some k_ ≠ (.slice Ao26 t107.length co26 : Value).ownBlock) s_ y118) ∧ (w'.heap[gb101]? = some (.cells #[.int .u8 a0_0, .slice A0_1 l0_1.length c0_1, .int .u8 a0_2] 24 (0, 0))) ∧ (w'.heap[gb102]? = some (.cells #[.int .u8 a1_0, .int .u8 a1_1, .int .u8 a1_2, .int .u8 a1_3, .int .u8 a1_4, .int .u8 a1_5] 58 (0, 0))) ∧ (w'.heap[gb117]? = some (.cells #[.int .i64 t111, .int .i64 t112, .int .i64 t113, .int .i64 t114, .int .i64 t115, .int .i64 t116] 40 (0, 0))) ∧ (Below w.heap.size w w')) ?_ ?_
            rotate_left
            ·intro hJ1
             refine join_ (σ := Nat) 7 #[true, false, true, false, true, true, false, false, false, true, false, true, false] (fun s_ => [(10, .pointer (some ⟨s_, 0, none⟩))]) (fun s_ w' => (w'.cell? ⟨gb102, 0, none⟩ = some (.int .u8 a1_0) ∧ w'.cell? ⟨gb102, 1, none⟩ = some (.int .u8 a1_1) ∧ w'.cell? ⟨gb102, 2, none⟩ = some (.int .u8 a1_2) ∧ w'.cell? ⟨gb102, 3, none⟩ = some (.int .u8 a1_3) ∧ w'.cell? ⟨gb102, 4, none⟩ = some (.int .u8 a1_4) ∧ w'.cell? ⟨gb102, 5, none⟩ = some (.int .u8 a1_5)) ∧ (Kd.R (Kd.int .u64) 26 w' w.heap.size (fun _ => True) (.slice Ao25 t104.length co25) t104) ∧ (Kd.R k28 28 w' w.heap.size (fun _ => True) (.slice Ao26 t107.length co26) t107) ∧ (w'.heap[gb101]? = some (.cells #[.int .u8 a0_0, .slice A0_1 l0_1.length c0_1, .int .u8 a0_2] 24 (0, 0))) ∧ (w'.heap[gb102]? = some (.cells #[.int .u8 a1_0, .int .u8 a1_1, .int .u8 a1_2, .int .u8 a1_3, .int .u8 a1_4, .int .u8 a1_5] 58 (0, 0))) ∧ (w'.heap[gb117]? = some (.cells #[.int .i64 t111, .int .i64 t112, .int .i64 t113, .int .i64 t114, .int .i64 t115, .int .i64 t116] 40 (0, 0))) ∧ (w'.heap[s_]? = some (.cells #[.int .i64 0, .int .i64 0, .int .i64 0, .int .i64 0, .int .i64 0, .int .i64 0] 40 (0, 0))) ∧ (w.heap.size ≤ s_) ∧ (w.heap.size ≤ s_) ∧ (gb101 ≠ s_) ∧ (gb102 ≠ s_) ∧ (gb117 ≠ s_) ∧ (Below w.heap.size w w')) ?_ ?_
             rotate_left
             ·intro hJ11
              refine two2 (i := 1) (j := 11) (Ni := some 26) (Nj := some 10) HT_ rfl rfl rfl rfl (fun K hK => ?_) (fun K hK => ?_)
              ·refine Kd.R_lit_step k28 _ 28 ?hg (N := 26) ?hd (xs := ([] : List (S28))) (inner := []) (ok := fun _ => True) (okp := fun _ => True) ?hr ?hp (fun _ hk => hk) trivial (Below.refl _ _) (Nat.le_refl _) (by simp) ?_; (case hd => rfl); (case hg => rfl); (case hr => first | (go_simp; done) | (go_simp; rfl)); (case hp => exact (Reps.none _ _))
               intro v119 w34 ho35 hb hg_ hnew_
               clear hg_ hnew_
               (first | rw [← Ny118.out] at ho35 | (simp only [Int.reduceToNat] at ho35; rw [← Ny118.out] at ho35))
               have HO120 := aM (Kd.R_lower (Kd.R_new' ho35 (Kd.R_lt (rD HO109))) (below_size (sD HB))); replace HO106 := rB HO106 hb; replace HO109 := aM (Kd.R_elder' (rD HO109) (Kd.R_base ho35) hb); replace BK101 := bB BK101 hb; replace BK102 := bB BK102 hb; replace BK117 := bB BK117 hb; replace HB := sB HB hb; clear hb ho35
               refine hK.out _ _ ⟨cE BK102 0, cE BK102 1, cE BK102 2, cE BK102 3, cE BK102 4, cE BK102 5⟩ (fun hHeld => ?_)
               clear hK K
               refine nX (some 26) ?_
               exact nV (hJ1 (v119) _ ⟨hHeld, rD HO106, (rD ⟨Kd.R_mono HO109.out (fun _ hk => hk.2)⟩), (rD ⟨Kd.R_mono HO120.out (fun _ hk => hk.2)⟩), bD BK101, bD BK102, bD BK117, sD HB⟩)
              refine bS (N := 10) (cs := #[.int .i64 0, .int .i64 0, .int .i64 0, .int .i64 0, .int .i64 0, .int .i64 0]) (t := 40) ?_
              intro gb143 hg w34 hbox hb
              have BK143 := aM (hbox); have GW143 := gE hg HB; have GE143 := gE hg HB; have NB101_143 := nL hg BK101; have NB102_143 := nL hg BK102; have NB117_143 := nL hg BK117; replace HO106 := rB HO106 hb; replace HO109 := rB HO109 hb; replace BK101 := bB BK101 hb; replace BK102 := bB BK102 hb; replace BK117 := bB BK117 hb; replace HB := sB HB hb; clear hb hbox hg
              refine hK.out _ _ ⟨cE BK102 0, cE BK102 1, cE BK102 2, cE BK102 3, cE BK102 4, cE BK102 5⟩ (fun hHeld => ?_)
              clear hK K
              refine nX (some 10) ?_
              exact nV (hJ11 (gb143) _ ⟨hHeld, rD HO106, rD HO109, bD BK101, bD BK102, bD BK117, bD BK143, GW143.out, GE143.out, NB101_143.out, NB102_143.out, NB117_143.out, sD HB⟩)
             rintro gb143 w35 ⟨hS_, h0_, h1_, h2_, h3_, h4_, h5_, h6_, h7_, h8_, h10_, h12_, h14_⟩
             (try dsimp only at h0_ h1_ h2_ h3_ h4_ h5_ h6_ h7_ h8_ h10_ h12_ h14_)
             have BK143 := aM h5_; have GW143 := aM h6_; have GE143 := aM h7_; have NB101_143 := aM h8_; have NB102_143 := aM h10_; have NB117_143 := aM h12_; replace HO106 := aM h0_; replace HO109 := aM h1_; replace BK101 := aM h2_; replace BK102 := aM h3_; replace BK117 := aM h4_; replace HB := aM h14_; clear h0_ h1_ h2_ h3_ h4_ h5_ h6_ h7_ h8_ h10_ h12_ h14_
             (try dsimp only at hS_); have hHeld := hS_; clear hS_
             refine nQ ?_
             refine oX (i := 1) (N := some 26) rfl rfl HT_ (fun K hK => ?_)
             refine Kd.R_lit_step k28 _ 28 ?hg (N := 26) ?hd (xs := ([] : List (S28))) (inner := []) (ok := fun _ => True) (okp := fun _ => True) ?hr ?hp (fun _ hk => hk) trivial (Below.refl _ _) (Nat.le_refl _) (by simp) ?_; (case hd => rfl); (case hg => rfl); (case hr => first | (go_simp; done) | (go_simp; rfl)); (case hp => exact (Reps.none _ _))
             intro v119 w36 ho37 hb hg_ hnew_
             clear hg_ hnew_
             (first | rw [← Ny118.out] at ho37 | (simp only [Int.reduceToNat] at ho37; rw [← Ny118.out] at ho37))
             have HO120 := aM (Kd.R_lower (Kd.R_new' ho37 (Kd.R_lt (rD HO109))) (below_size (sD HB))); replace HO106 := rB HO106 hb; replace HO109 := aM (Kd.R_elder' (rD HO109) (Kd.R_base ho37) hb); replace BK101 := bB BK101 hb; replace BK102 := bB BK102 hb; replace BK117 := bB BK117 hb; replace BK143 := bB BK143 hb; replace HB := sB HB hb; clear hb ho37
             refine hK.out _ _ ⟨cE BK102 0, cE BK102 1, cE BK102 2, cE BK102 3, cE BK102 4, cE BK102 5⟩ (fun hHeld => ?_)
             clear hK K
             refine nX (some 26) ?_
             exact nV (hJ1_11 (v119, gb143) _ ⟨hHeld, rD HO106, (rD ⟨Kd.R_mono HO109.out (fun _ hk => hk.2)⟩), (rD ⟨Kd.R_mono HO120.out (fun _ hk => hk.2)⟩), bD BK101, bD BK102, bD BK117, bD BK143, GW143.out, GE143.out, NB101_143.out, NB102_143.out, NB117_143.out, sD HB⟩)
            rintro v119 w36 ⟨hS_, h0_, h1_, h2_, h3_, h4_, h5_, h6_⟩
            (try dsimp only at h0_ h1_ h2_ h3_ h4_ h5_ h6_)
            have HO120 := aM h2_; replace HO106 := aM h0_; replace HO109 := aM h1_; replace BK101 := aM h3_; replace BK102 := aM h4_; replace BK117 := aM h5_; replace HB := aM h6_; clear h0_ h1_ h2_ h3_ h4_ h5_ h6_
            (try dsimp only at hS_); have hHeld := hS_; clear hS_
            refine nQ ?_
            refine two2 (i := 3) (j := 11) (Ni := some 28) (Nj := some 10) HT_ rfl rfl rfl rfl (fun K hK => ?_) (fun K hK => ?_)
            ·refine Kd.R_append_rows_step k28 (w0 := w) w.heap.size (by rfl) (.tmp 26) (.tmp 27) 31 28 (.agg #[(.int .i64 0), (.int .i64 0), (.int .i64 0), (.int .i64 0), (.int .i64 0), (.int .i64 0), (.int .u64 0)]) 56 rfl Try.underlying31 info28 rfl (by decide) (by omega) v119 y118 t107 _ _ _ (fun k_ => some k_ ≠ (.slice Ao26 t107.length co26 : Value).ownBlock) (fun _ => False) rfl rfl ?aO ?aR (fun _ _ h => h) (fun _ h => h.elim) ?aF ?aB ?aS ?aL ?_
             (case aR => repeat (first | exact (Kd.R_reads' HO109.out).2.2 | (with_reducible refine Kd.C_alloc ?_ _) | (with_reducible refine Kd.C_drewN ?_ _) | (with_reducible refine Kd.C_drew ?_)))
             (case aB => exact (sD HB))
             (case aF => exact (fun k_ hk => Kd.fresh' (Kd.R_lt (rD HO109)) k_ hk))
             (case aO => exact (rD HO120))
             (case aS => exact (below_size (sD HB)))
             (case aL => have := LMc7.out; omega)
             intro v122 w37 ho hb hg hat
             rw [← Ny121.out] at ho
             have HO123 := aM (ho); replace BK101 := aM (blk_grown (g := gb101) (o := .cells #[.int .u8 a0_0, .slice A0_1 l0_1.length c0_1, .int .u8 a0_2] 24 (0, 0)) (bD BK101) hg (Kd.R_ne HO120.out BK101.out (by decide))); replace BK102 := aM (blk_grown (g := gb102) (o := .cells #[.int .u8 a1_0, .int .u8 a1_1, .int .u8 a1_2, .int .u8 a1_3, .int .u8 a1_4, .int .u8 a1_5] 58 (0, 0)) (bD BK102) hg (Kd.R_ne HO120.out BK102.out (by decide))); replace HO106 := aM (Kd.R_over' (rD HO106) (Kd.R_typed (rD HO120)) (by decide) hg); replace HO109 := aM (Kd.R_after (ok := (fun _ => True)) (rD ⟨Kd.R_mono HO109.out (fun _ hk => ⟨trivial, hk⟩)⟩) hg hat)
             replace BK117 := aM (blk_grown (g := gb117) (o := .cells #[.int .i64 t111, .int .i64 t112, .int .i64 t113, .int .i64 t114, .int .i64 t115, .int .i64 t116] 40 (0, 0)) (bD BK117) hg (Kd.R_ne HO120.out BK117.out (by decide))); replace HB := aM (hb); clear HO120 ho hb hg hat
             refine hK.out _ _ ⟨cE BK102 0, cE BK102 1, cE BK102 2, cE BK102 3, cE BK102 4, cE BK102 5⟩ (fun hHeld => ?_)
             clear hK K
             refine nX (some 28) ?_
             exact nV (hJ1_3 (v119, v122) _ ⟨hHeld, rD HO106, (rD ⟨Kd.R_mono HO109.out (fun _ hk => hk.2)⟩), rD HO123, bD BK101, bD BK102, bD BK117, sD HB⟩)
            refine bS (N := 10) (cs := #[.int .i64 0, .int .i64 0, .int .i64 0, .int .i64 0, .int .i64 0, .int .i64 0]) (t := 40) ?_
            intro gb143 hg w37 hbox hb
            have BK143 := aM (hbox); have GW143 := gE hg HB; have GE143 := gE hg HB; have NB101_143 := nL hg BK101; have NB102_143 := nL hg BK102; have NB117_143 := nL hg BK117; replace HO106 := rB HO106 hb; replace HO109 := rB HO109 hb; replace HO120 := rB HO120 hb; replace BK101 := bB BK101 hb; replace BK102 := bB BK102 hb; replace BK117 := bB BK117 hb; replace HB := sB HB hb; clear hb hbox hg
            refine hK.out _ _ ⟨cE BK102 0, cE BK102 1, cE BK102 2, cE BK102 3, cE BK102 4, cE BK102 5⟩ (fun hHeld => ?_)
            clear hK K
            refine nX (some 10) ?_
            exact nV (hJ1_11 (v119, gb143) _ ⟨hHeld, rD HO106, rD HO109, rD HO120, bD BK101, bD BK102, bD BK117, bD BK143, GW143.out, GE143.out, NB101_143.out, NB102_143.out, NB117_143.out, sD HB⟩)
           rintro ⟨v119, gb143⟩ w37 ⟨hS_, h0_, h1_, h2_, h3_, h4_, h5_, h6_, h7_, h8_, h9_, h11_, h13_, h15_⟩
           (try dsimp only at h0_ h1_ h2_ h3_ h4_ h5_ h6_ h7_ h8_ h9_ h11_ h13_ h15_)
           have HO120 := aM h2_; have BK143 := aM h6_; have GW143 := aM h7_; have GE143 := aM h8_; have NB101_143 := aM h9_; have NB102_143 := aM h11_; have NB117_143 := aM h13_; replace HO106 := aM h0_; replace HO109 := aM h1_; replace BK101 := aM h3_; replace BK102 := aM h4_; replace BK117 := aM h5_; replace HB := aM h15_; clear h0_ h1_ h2_ h3_ h4_ h5_ h6_ h7_ h8_ h9_ h11_ h13_ h15_
           (try dsimp only at hS_); have hHeld := hS_; clear hS_
           refine nQ ?_
           refine oX (i := 3) (N := some 28) rfl rfl HT_ (fun K hK => ?_)
           refine Kd.R_append_rows_step k28 (w0 := w) w.heap.size (by rfl) (.tmp 26) (.tmp 27) 31 28 (.agg #[(.int .i64 0), (.int .i64 0), (.int .i64 0), (.int .i64 0), (.int .i64 0), (.int .i64 0), (.int .u64 0)]) 56 rfl Try.underlying31 info28 rfl (by decide) (by omega) v119 y118 t107 _ _ _ (fun k_ => some k_ ≠ (.slice Ao26 t107.length co26 : Value).ownBlock) (fun _ => False) rfl rfl ?aO ?aR (fun _ _ h => h) (fun _ h => h.elim) ?aF ?aB ?aS ?aL ?_
           (case aR => repeat (first | exact (Kd.R_reads' HO109.out).2.2 | (with_reducible refine Kd.C_alloc ?_ _) | (with_reducible refine Kd.C_drewN ?_ _) | (with_reducible refine Kd.C_drew ?_)))
           (case aB => exact (sD HB))
           (case aF => exact (fun k_ hk => Kd.fresh' (Kd.R_lt (rD HO109)) k_ hk))
           (case aO => exact (rD HO120))
           (case aS => exact (below_size (sD HB)))
           (case aL => have := LMc7.out; omega)
           intro v122 w38 ho hb hg hat
           rw [← Ny121.out] at ho
           have HO123 := aM (ho); replace BK101 := aM (blk_grown (g := gb101) (o := .cells #[.int .u8 a0_0, .slice A0_1 l0_1.length c0_1, .int .u8 a0_2] 24 (0, 0)) (bD BK101) hg (Kd.R_ne HO120.out BK101.out (by decide))); replace BK102 := aM (blk_grown (g := gb102) (o := .cells #[.int .u8 a1_0, .int .u8 a1_1, .int .u8 a1_2, .int .u8 a1_3, .int .u8 a1_4, .int .u8 a1_5] 58 (0, 0)) (bD BK102) hg (Kd.R_ne HO120.out BK102.out (by decide))); replace HO106 := aM (Kd.R_over' (rD HO106) (Kd.R_typed (rD HO120)) (by decide) hg); replace HO109 := aM (Kd.R_after (ok := (fun _ => True)) (rD ⟨Kd.R_mono HO109.out (fun _ hk => ⟨trivial, hk⟩)⟩) hg hat)
           replace BK117 := aM (blk_grown (g := gb117) (o := .cells #[.int .i64 t111, .int .i64 t112, .int .i64 t113, .int .i64 t114, .int .i64 t115, .int .i64 t116] 40 (0, 0)) (bD BK117) hg (Kd.R_ne HO120.out BK117.out (by decide))); replace BK143 := aM (blk_grown (g := gb143) (o := .cells #[.int .i64 0, .int .i64 0, .int .i64 0, .int .i64 0, .int .i64 0, .int .i64 0] 40 (0, 0)) (bD BK143) hg (Kd.R_ne HO120.out BK143.out (by decide))); replace HB := aM (hb); clear HO120 ho hb hg hat
           refine hK.out _ _ ⟨cE BK102 0, cE BK102 1, cE BK102 2, cE BK102 3, cE BK102 4, cE BK102 5⟩ (fun hHeld => ?_)
           clear hK K
           refine nX (some 28) ?_
           exact nV (hJ1_3_11 (v119, v122, gb143) _ ⟨hHeld, rD HO106, (rD ⟨Kd.R_mono HO109.out (fun _ hk => hk.2)⟩), rD HO123, bD BK101, bD BK102, bD BK117, bD BK143, GW143.out, GE143.out, NB101_143.out, NB102_143.out, NB117_143.out, sD HB⟩)
          rintro ⟨v119, v122⟩ w37 ⟨hS_, h0_, h1_, h2_, h3_, h4_, h5_, h6_⟩
          (try dsimp only at h0_ h1_ h2_ h3_ h4_ h5_ h6_)
          have HO123 := aM h2_; replace HO106 := aM h0_; replace HO109 := aM h1_; replace BK101 := aM h3_; replace BK102 := aM h4_; replace BK117 := aM h5_; replace HB := aM h6_; clear h0_ h1_ h2_ h3_ h4_ h5_ h6_
          (try dsimp only at hS_); have hHeld := hS_; clear hS_
          refine nQ ?_
          refine two2 (i := 6) (j := 11) (Ni := some 31) (Nj := some 10) HT_ rfl rfl rfl rfl (fun K hK => ?_) (fun K hK => ?_)
          ·refine gS Try.func23 #[.slice Ao25 t104.length co25, .agg #[.int .u8 a1_0, .int .u8 a1_1, .int .u8 a1_2, .int .u8 a1_3, .int .u8 a1_4, .int .u8 a1_5]] ?_
           with_reducible refine (paroleref32_Made.calls k _ _ t104 a1_0 a1_1 a1_2 a1_3 a1_4 a1_5 t124 t125 t126 t127 t128 t129 t130 _ ?side1 ?side2 A8.out).mono ?_
           (case side1 => exact rC HO106)
           (case side2 => exact rN HO106)
           rintro e w38 ⟨rfl, hb⟩
           refine ⟨_, rfl, ?_⟩
           replace HO106 := rB HO106 hb; replace HO109 := rB HO109 hb; replace HO123 := rB HO123 hb; replace BK101 := bB BK101 hb; replace BK102 := bB BK102 hb; replace BK117 := bB BK117 hb; replace HB := sB HB hb; (try clear hb); (try clear hb2); (try clear hk); (try clear hi)
           refine hK.out _ _ ⟨cE BK102 0, cE BK102 1, cE BK102 2, cE BK102 3, cE BK102 4, cE BK102 5⟩ (fun hHeld => ?_)
           clear hK K
           refine nX (some 31) ?_
           exact nV (hJ1_3_6 (v119, v122) _ ⟨hHeld, rD HO106, rD HO109, rD HO123, bD BK101, bD BK102, bD BK117, sD HB⟩)
          refine bS (N := 10) (cs := #[.int .i64 0, .int .i64 0, .int .i64 0, .int .i64 0, .int .i64 0, .int .i64 0]) (t := 40) ?_
          intro gb143 hg w38 hbox hb
          have BK143 := aM (hbox); have GW143 := gE hg HB; have GE143 := gE hg HB; have NB101_143 := nL hg BK101; have NB102_143 := nL hg BK102; have NB117_143 := nL hg BK117; replace HO106 := rB HO106 hb; replace HO109 := rB HO109 hb; replace HO123 := rB HO123 hb; replace BK101 := bB BK101 hb; replace BK102 := bB BK102 hb; replace BK117 := bB BK117 hb; replace HB := sB HB hb; clear hb hbox hg
          refine hK.out _ _ ⟨cE BK102 0, cE BK102 1, cE BK102 2, cE BK102 3, cE BK102 4, cE BK102 5⟩ (fun hHeld => ?_)
          clear hK K
          refine nX (some 10) ?_
          exact nV (hJ1_3_11 (v119, v122, gb143) _ ⟨hHeld, rD HO106, rD HO109, rD HO123, bD BK101, bD BK102, bD BK117, bD BK143, GW143.out, GE143.out, NB101_143.out, NB102_143.out, NB117_143.out, sD HB⟩)
         rintro ⟨v119, v122, gb143⟩ w38 ⟨hS_, h0_, h1_, h2_, h3_, h4_, h5_, h6_, h7_, h8_, h9_, h11_, h13_, h15_⟩
         (try dsimp only at h0_ h1_ h2_ h3_ h4_ h5_ h6_ h7_ h8_ h9_ h11_ h13_ h15_)
         have HO123 := aM h2_; have BK143 := aM h6_; have GW143 := aM h7_; have GE143 := aM h8_; have NB101_143 := aM h9_; have NB102_143 := aM h11_; have NB117_143 := aM h13_; replace HO106 := aM h0_; replace HO109 := aM h1_; replace BK101 := aM h3_; replace BK102 := aM h4_; replace BK117 := aM h5_; replace HB := aM h15_; clear h0_ h1_ h2_ h3_ h4_ h5_ h6_ h7_ h8_ h9_ h11_ h13_ h15_
         (try dsimp only at hS_); have hHeld := hS_; clear hS_
         refine nQ ?_
         refine oX (i := 6) (N := some 31) rfl rfl HT_ (fun K hK => ?_)
         refine gS Try.func23 #[.slice Ao25 t104.length co25, .agg #[.int .u8 a1_0, .int .u8 a1_1, .int .u8 a1_2, .int .u8 a1_3, .int .u8 a1_4, .int .u8 a1_5]] ?_
         with_reducible refine (paroleref32_Made.calls k _ _ t104 a1_0 a1_1 a1_2 a1_3 a1_4 a1_5 t124 t125 t126 t127 t128 t129 t130 _ ?side1 ?side2 A8.out).mono ?_
         (case side1 => exact rC HO106)
         (case side2 => exact rN HO106)
         rintro e w39 ⟨rfl, hb⟩
         refine ⟨_, rfl, ?_⟩
         replace HO106 := rB HO106 hb; replace HO109 := rB HO109 hb; replace HO123 := rB HO123 hb; replace BK101 := bB BK101 hb; replace BK102 := bB BK102 hb; replace BK117 := bB BK117 hb; replace BK143 := bB BK143 hb; replace HB := sB HB hb; (try clear hb); (try clear hb2); (try clear hk); (try clear hi)
         refine hK.out _ _ ⟨cE BK102 0, cE BK102 1, cE BK102 2, cE BK102 3, cE BK102 4, cE BK102 5⟩ (fun hHeld => ?_)
         clear hK K
         refine nX (some 31) ?_
         exact nV (hJ1_3_6_11 (v119, v122, gb143) _ ⟨hHeld, rD HO106, rD HO109, rD HO123, bD BK101, bD BK102, bD BK117, bD BK143, GW143.out, GE143.out, NB101_143.out, NB102_143.out, NB117_143.out, sD HB⟩)
        rintro ⟨v119, v122⟩ w38 ⟨hS_, h0_, h1_, h2_, h3_, h4_, h5_, h6_⟩
        (try dsimp only at h0_ h1_ h2_ h3_ h4_ h5_ h6_)
        have HO123 := aM h2_; replace HO106 := aM h0_; replace HO109 := aM h1_; replace BK101 := aM h3_; replace BK102 := aM h4_; replace BK117 := aM h5_; replace HB := aM h6_; clear h0_ h1_ h2_ h3_ h4_ h5_ h6_
        (try dsimp only at hS_); have hHeld := hS_; clear hS_
        refine nQ ?_
        refine two2 (i := 7) (j := 11) (Ni := some 32) (Nj := some 10) HT_ rfl rfl rfl rfl (fun K hK => ?_) (fun K hK => ?_)
        ·refine Kd.R_lit_step k28 _ 28 ?hg (N := 32) ?hd (xs := ([(⟨t124, t125, t126, t127, t128, t129, t130⟩ : S28)] : List (S28))) (inner := [.int .i64 t124, .int .i64 t125, .int .i64 t126, .int .i64 t127, .int .i64 t128, .int .i64 t129, .int .u64 t130]) (ok := fun _ => True) (okp := fun _ => True) ?hr ?hp (fun _ hk => hk) trivial (Below.refl _ _) (Nat.le_refl _) (by simp) ?_; (case hd => rfl); (case hg => rfl); (case hr => first | (go_simp; done) | (go_simp; rfl)); (case hp => exact (Reps.c7 (show Kd.M k28 _ _ _ (⟨t124, t125, t126, t127, t128, t129, t130⟩ : S28) [.int .i64 t124, .int .i64 t125, .int .i64 t126, .int .i64 t127, .int .i64 t128, .int .i64 t129, .int .u64 t130] from (k28_mkM _ _ _ (⟨t124, t125, t126, t127, t128, t129, t130⟩ : S28) )) (Reps.none _ _)))
         intro v132 w39 ho40 hb hg_ hnew_
         clear hg_ hnew_
         (first | rw [← Ny131.out] at ho40 | (simp only [Int.reduceToNat] at ho40; rw [← Ny131.out] at ho40))
         have HO133 := aM (Kd.R_lower (Kd.R_new' (Kd.R_new' ho40 (Kd.R_lt (rD HO109))) (Kd.R_lt (rD HO123))) (below_size (sD HB))); replace HO106 := rB HO106 hb; replace HO109 := aM (Kd.R_elder' (rD HO109) (Kd.R_base ho40) hb); replace HO123 := aM (Kd.R_elder' (rD HO123) (Kd.R_base ho40) hb); replace BK101 := bB BK101 hb; replace BK102 := bB BK102 hb; replace BK117 := bB BK117 hb; replace HB := sB HB hb; clear hb ho40
         refine hK.out _ _ ⟨cE BK102 0, cE BK102 1, cE BK102 2, cE BK102 3, cE BK102 4, cE BK102 5⟩ (fun hHeld => ?_)
         clear hK K
         refine nX (some 32) ?_
         exact nV (hJ1_3_6_7 (v119, v122, v132) _ ⟨hHeld, rD HO106, rD HO109, rD HO123, (rD ⟨Kd.R_mono HO133.out (fun _ hk => ⟨hk.1.2, hk.2⟩)⟩), bD BK101, bD BK102, bD BK117, sD HB⟩)
        refine bS (N := 10) (cs := #[.int .i64 0, .int .i64 0, .int .i64 0, .int .i64 0, .int .i64 0, .int .i64 0]) (t := 40) ?_
        intro gb143 hg w39 hbox hb
        have BK143 := aM (hbox); have GW143 := gE hg HB; have GE143 := gE hg HB; have NB101_143 := nL hg BK101; have NB102_143 := nL hg BK102; have NB117_143 := nL hg BK117; replace HO106 := rB HO106 hb; replace HO109 := rB HO109 hb; replace HO123 := rB HO123 hb; replace BK101 := bB BK101 hb; replace BK102 := bB BK102 hb; replace BK117 := bB BK117 hb; replace HB := sB HB hb; clear hb hbox hg
        refine hK.out _ _ ⟨cE BK102 0, cE BK102 1, cE BK102 2, cE BK102 3, cE BK102 4, cE BK102 5⟩ (fun hHeld => ?_)
        clear hK K
        refine nX (some 10) ?_
        exact nV (hJ1_3_6_11 (v119, v122, gb143) _ ⟨hHeld, rD HO106, rD HO109, rD HO123, bD BK101, bD BK102, bD BK117, bD BK143, GW143.out, GE143.out, NB101_143.out, NB102_143.out, NB117_143.out, sD HB⟩)
       rintro ⟨v119, v122, gb143⟩ w39 ⟨hS_, h0_, h1_, h2_, h3_, h4_, h5_, h6_, h7_, h8_, h9_, h11_, h13_, h15_⟩
       (try dsimp only at h0_ h1_ h2_ h3_ h4_ h5_ h6_ h7_ h8_ h9_ h11_ h13_ h15_)
       have HO123 := aM h2_; have BK143 := aM h6_; have GW143 := aM h7_; have GE143 := aM h8_; have NB101_143 := aM h9_; have NB102_143 := aM h11_; have NB117_143 := aM h13_; replace HO106 := aM h0_; replace HO109 := aM h1_; replace BK101 := aM h3_; replace BK102 := aM h4_; replace BK117 := aM h5_; replace HB := aM h15_; clear h0_ h1_ h2_ h3_ h4_ h5_ h6_ h7_ h8_ h9_ h11_ h13_ h15_
       (try dsimp only at hS_); have hHeld := hS_; clear hS_
       refine nQ ?_
       refine oX (i := 7) (N := some 32) rfl rfl HT_ (fun K hK => ?_)
       refine Kd.R_lit_step k28 _ 28 ?hg (N := 32) ?hd (xs := ([(⟨t124, t125, t126, t127, t128, t129, t130⟩ : S28)] : List (S28))) (inner := [.int .i64 t124, .int .i64 t125, .int .i64 t126, .int .i64 t127, .int .i64 t128, .int .i64 t129, .int .u64 t130]) (ok := fun _ => True) (okp := fun _ => True) ?hr ?hp (fun _ hk => hk) trivial (Below.refl _ _) (Nat.le_refl _) (by simp) ?_; (case hd => rfl); (case hg => rfl); (case hr => first | (go_simp; done) | (go_simp; rfl)); (case hp => exact (Reps.c7 (show Kd.M k28 _ _ _ (⟨t124, t125, t126, t127, t128, t129, t130⟩ : S28) [.int .i64 t124, .int .i64 t125, .int .i64 t126, .int .i64 t127, .int .i64 t128, .int .i64 t129, .int .u64 t130] from (k28_mkM _ _ _ (⟨t124, t125, t126, t127, t128, t129, t130⟩ : S28) )) (Reps.none _ _)))
       intro v132 w40 ho41 hb hg_ hnew_
       clear hg_ hnew_
       (first | rw [← Ny131.out] at ho41 | (simp only [Int.reduceToNat] at ho41; rw [← Ny131.out] at ho41))
       have HO133 := aM (Kd.R_lower (Kd.R_new' (Kd.R_new' ho41 (Kd.R_lt (rD HO109))) (Kd.R_lt (rD HO123))) (below_size (sD HB))); replace HO106 := rB HO106 hb; replace HO109 := aM (Kd.R_elder' (rD HO109) (Kd.R_base ho41) hb); replace HO123 := aM (Kd.R_elder' (rD HO123) (Kd.R_base ho41) hb); replace BK101 := bB BK101 hb; replace BK102 := bB BK102 hb; replace BK117 := bB BK117 hb; replace BK143 := bB BK143 hb; replace HB := sB HB hb; clear hb ho41
       refine hK.out _ _ ⟨cE BK102 0, cE BK102 1, cE BK102 2, cE BK102 3, cE BK102 4, cE BK102 5⟩ (fun hHeld => ?_)
       clear hK K
       refine nX (some 32) ?_
       exact nV (hJ1_3_6_7_11 (v119, v122, _, gb143) _ ⟨hHeld, rD HO106, rD HO109, rD HO123, (rD ⟨Kd.R_mono HO133.out (fun _ hk => ⟨hk.1.2, hk.2⟩)⟩), bD BK101, bD BK102, bD BK117, bD BK143, GW143.out, GE143.out, NB101_143.out, NB102_143.out, NB117_143.out, sD HB⟩)
      rintro ⟨v119, v122, v132⟩ w40 ⟨hS_, h0_, h1_, h2_, h3_, h4_, h5_, h6_, h7_⟩
      (try dsimp only at h0_ h1_ h2_ h3_ h4_ h5_ h6_ h7_)
      have HO123 := aM h2_; have HO133 := aM h3_; replace HO106 := aM h0_; replace HO109 := aM h1_; replace BK101 := aM h4_; replace BK102 := aM h5_; replace BK117 := aM h6_; replace HB := aM h7_; clear h0_ h1_ h2_ h3_ h4_ h5_ h6_ h7_
      (try dsimp only at hS_); have hHeld := hS_; clear hS_
      obtain ⟨Ao42, co42, eo42⟩ := Kd.R_slice HO133.out
      (first | subst eo42 | (injection eo42 with f1_ f2_ f3_; have f4_ := f1_.symm; have f5_ := f3_.symm; clear f1_ f2_ f3_; subst f4_; subst f5_))
      refine nQ ?_
      refine two2 (i := 8) (j := 11) (Ni := some 33) (Nj := some 10) HT_ rfl rfl rfl rfl (fun K hK => ?_) (fun K hK => ?_)
      ·refine Kd.R_append_rows_step k28 (w0 := w) w.heap.size (by rfl) (.tmp 28) (.tmp 32) 31 28 (.agg #[(.int .i64 0), (.int .i64 0), (.int .i64 0), (.int .i64 0), (.int .i64 0), (.int .i64 0), (.int .u64 0)]) 56 rfl Try.underlying31 info28 rfl (by decide) (by omega) v122 y121 y131 _ _ _ (fun k_ => some k_ ≠ (.slice Ao26 t107.length co26 : Value).ownBlock ∧ some k_ ≠ (.slice Ao42 y131.length co42 : Value).ownBlock) (fun _ => False) rfl rfl ?aO ?aR (fun _ _ h => h) (fun _ h => h.elim) ?aF ?aB ?aS ?aL ?_
       (case aR => repeat (first | exact (Kd.R_reads' HO133.out).2.2 | (with_reducible refine Kd.C_alloc ?_ _) | (with_reducible refine Kd.C_drewN ?_ _) | (with_reducible refine Kd.C_drew ?_)))
       (case aB => exact (sD HB))
       (case aF => exact (fun k_ hk => ⟨Kd.fresh' (Kd.R_lt (rD HO109)) k_ hk, Kd.fresh' (Kd.R_lt (rD HO133)) k_ hk⟩))
       (case aO => exact (rD HO123))
       (case aS => exact (below_size (sD HB)))
       (case aL => have := LMc9.out; omega)
       intro v135 w41 ho hb hg hat
       rw [← Ny134.out] at ho
       have HO136 := aM (ho); replace BK101 := aM (blk_grown (g := gb101) (o := .cells #[.int .u8 a0_0, .slice A0_1 l0_1.length c0_1, .int .u8 a0_2] 24 (0, 0)) (bD BK101) hg (Kd.R_ne HO123.out BK101.out (by decide))); replace BK102 := aM (blk_grown (g := gb102) (o := .cells #[.int .u8 a1_0, .int .u8 a1_1, .int .u8 a1_2, .int .u8 a1_3, .int .u8 a1_4, .int .u8 a1_5] 58 (0, 0)) (bD BK102) hg (Kd.R_ne HO123.out BK102.out (by decide))); replace HO106 := aM (Kd.R_over' (rD HO106) (Kd.R_typed (rD HO123)) (by decide) hg); replace HO109 := aM (Kd.R_after (ok := (fun k_ => some k_ ≠ (.slice Ao42 y131.length co42 : Value).ownBlock)) (rD ⟨Kd.R_mono HO109.out (fun _ hk => ⟨hk.2, hk.1⟩)⟩) hg hat)
       replace BK117 := aM (blk_grown (g := gb117) (o := .cells #[.int .i64 t111, .int .i64 t112, .int .i64 t113, .int .i64 t114, .int .i64 t115, .int .i64 t116] 40 (0, 0)) (bD BK117) hg (Kd.R_ne HO123.out BK117.out (by decide))); replace HO133 := aM (Kd.R_after (ok := (fun k_ => some k_ ≠ (.slice Ao26 t107.length co26 : Value).ownBlock)) (rD HO133) hg hat); replace HB := aM (hb); clear HO123 ho hb hg hat
       refine hK.out _ _ ⟨cE BK102 0, cE BK102 1, cE BK102 2, cE BK102 3, cE BK102 4, cE BK102 5⟩ (fun hHeld => ?_)
       clear hK K
       refine nX (some 33) ?_
       exact nV (hJ1_3_6_7_8 (v119, v122, .slice Ao42 y131.length co42, v135) _ ⟨hHeld, rD HO106, rD HO109, rD HO133, rD HO136, bD BK101, bD BK102, bD BK117, sD HB⟩)
      refine bS (N := 10) (cs := #[.int .i64 0, .int .i64 0, .int .i64 0, .int .i64 0, .int .i64 0, .int .i64 0]) (t := 40) ?_
      intro gb143 hg w41 hbox hb
      have BK143 := aM (hbox); have GW143 := gE hg HB; have GE143 := gE hg HB; have NB101_143 := nL hg BK101; have NB102_143 := nL hg BK102; have NB117_143 := nL hg BK117; replace HO106 := rB HO106 hb; replace HO109 := rB HO109 hb; replace HO123 := rB HO123 hb; replace HO133 := rB HO133 hb; replace BK101 := bB BK101 hb; replace BK102 := bB BK102 hb; replace BK117 := bB BK117 hb; replace HB := sB HB hb; clear hb hbox hg
      refine hK.out _ _ ⟨cE BK102 0, cE BK102 1, cE BK102 2, cE BK102 3, cE BK102 4, cE BK102 5⟩ (fun hHeld => ?_)
      clear hK K
      refine nX (some 10) ?_
      exact nV (hJ1_3_6_7_11 (v119, v122, _, gb143) _ ⟨hHeld, rD HO106, rD HO109, rD HO123, rD HO133, bD BK101, bD BK102, bD BK117, bD BK143, GW143.out, GE143.out, NB101_143.out, NB102_143.out, NB117_143.out, sD HB⟩)
     rintro ⟨v119, v122, v132, gb143⟩ w41 ⟨hS_, h0_, h1_, h2_, h3_, h4_, h5_, h6_, h7_, h8_, h9_, h10_, h12_, h14_, h16_⟩
     (try dsimp only at h0_ h1_ h2_ h3_ h4_ h5_ h6_ h7_ h8_ h9_ h10_ h12_ h14_ h16_)
     have HO123 := aM h2_; have HO133 := aM h3_; have BK143 := aM h7_; have GW143 := aM h8_; have GE143 := aM h9_; have NB101_143 := aM h10_; have NB102_143 := aM h12_; have NB117_143 := aM h14_; replace HO106 := aM h0_; replace HO109 := aM h1_; replace BK101 := aM h4_; replace BK102 := aM h5_; replace BK117 := aM h6_; replace HB := aM h16_; clear h0_ h1_ h2_ h3_ h4_ h5_ h6_ h7_ h8_ h9_ h10_ h12_ h14_ h16_
     (try dsimp only at hS_); have hHeld := hS_; clear hS_
     obtain ⟨Ao43, co43, eo43⟩ := Kd.R_slice HO133.out
     (first | subst eo43 | (injection eo43 with f1_ f2_ f3_; have f4_ := f1_.symm; have f5_ := f3_.symm; clear f1_ f2_ f3_; subst f4_; subst f5_))
     refine nQ ?_
     refine oX (i := 8) (N := some 33) rfl rfl HT_ (fun K hK => ?_)
     refine Kd.R_append_rows_step k28 (w0 := w) w.heap.size (by rfl) (.tmp 28) (.tmp 32) 31 28 (.agg #[(.int .i64 0), (.int .i64 0), (.int .i64 0), (.int .i64 0), (.int .i64 0), (.int .i64 0), (.int .u64 0)]) 56 rfl Try.underlying31 info28 rfl (by decide) (by omega) v122 y121 y131 _ _ _ (fun k_ => some k_ ≠ (.slice Ao26 t107.length co26 : Value).ownBlock ∧ some k_ ≠ (.slice Ao43 y131.length co43 : Value).ownBlock) (fun _ => False) rfl rfl ?aO ?aR (fun _ _ h => h) (fun _ h => h.elim) ?aF ?aB ?aS ?aL ?_
     (case aR => repeat (first | exact (Kd.R_reads' HO133.out).2.2 | (with_reducible refine Kd.C_alloc ?_ _) | (with_reducible refine Kd.C_drewN ?_ _) | (with_reducible refine Kd.C_drew ?_)))
     (case aB => exact (sD HB))
     (case aF => exact (fun k_ hk => ⟨Kd.fresh' (Kd.R_lt (rD HO109)) k_ hk, Kd.fresh' (Kd.R_lt (rD HO133)) k_ hk⟩))
     (case aO => exact (rD HO123))
     (case aS => exact (below_size (sD HB)))
     (case aL => have := LMc9.out; omega)
     intro v135 w42 ho hb hg hat
     rw [← Ny134.out] at ho
     have HO136 := aM (ho); replace BK101 := aM (blk_grown (g := gb101) (o := .cells #[.int .u8 a0_0, .slice A0_1 l0_1.length c0_1, .int .u8 a0_2] 24 (0, 0)) (bD BK101) hg (Kd.R_ne HO123.out BK101.out (by decide))); replace BK102 := aM (blk_grown (g := gb102) (o := .cells #[.int .u8 a1_0, .int .u8 a1_1, .int .u8 a1_2, .int .u8 a1_3, .int .u8 a1_4, .int .u8 a1_5] 58 (0, 0)) (bD BK102) hg (Kd.R_ne HO123.out BK102.out (by decide))); replace HO106 := aM (Kd.R_over' (rD HO106) (Kd.R_typed (rD HO123)) (by decide) hg); replace HO109 := aM (Kd.R_after (ok := (fun k_ => some k_ ≠ (.slice Ao43 y131.length co43 : Value).ownBlock)) (rD ⟨Kd.R_mono HO109.out (fun _ hk => ⟨hk.2, hk.1⟩)⟩) hg hat)
     replace BK117 := aM (blk_grown (g := gb117) (o := .cells #[.int .i64 t111, .int .i64 t112, .int .i64 t113, .int .i64 t114, .int .i64 t115, .int .i64 t116] 40 (0, 0)) (bD BK117) hg (Kd.R_ne HO123.out BK117.out (by decide))); replace HO133 := aM (Kd.R_after (ok := (fun k_ => some k_ ≠ (.slice Ao26 t107.length co26 : Value).ownBlock)) (rD HO133) hg hat); replace BK143 := aM (blk_grown (g := gb143) (o := .cells #[.int .i64 0, .int .i64 0, .int .i64 0, .int .i64 0, .int .i64 0, .int .i64 0] 40 (0, 0)) (bD BK143) hg (Kd.R_ne HO123.out BK143.out (by decide))); replace HB := aM (hb); clear HO123 ho hb hg hat
     refine hK.out _ _ ⟨cE BK102 0, cE BK102 1, cE BK102 2, cE BK102 3, cE BK102 4, cE BK102 5⟩ (fun hHeld => ?_)
     clear hK K
     refine nX (some 33) ?_
     exact nV (hJ1_3_6_7_8_11 (v119, v122, .slice Ao43 y131.length co43, v135, gb143) _ ⟨hHeld, rD HO106, rD HO109, rD HO133, rD HO136, bD BK101, bD BK102, bD BK117, bD BK143, GW143.out, GE143.out, NB101_143.out, NB102_143.out, NB117_143.out, sD HB⟩)
    rintro ⟨v119, v122, v132, v135⟩ w42 ⟨hS_, h0_, h1_, h2_, h3_, h4_, h5_, h6_, h7_⟩
    (try dsimp only at h0_ h1_ h2_ h3_ h4_ h5_ h6_ h7_)
    have HO133 := aM h2_; have HO136 := aM h3_; replace HO106 := aM h0_; replace HO109 := aM h1_; replace BK101 := aM h4_; replace BK102 := aM h5_; replace BK117 := aM h6_; replace HB := aM h7_; clear h0_ h1_ h2_ h3_ h4_ h5_ h6_ h7_
    (try dsimp only at hS_); have hHeld := hS_; clear hS_
    obtain ⟨Ao43, co43, eo43⟩ := Kd.R_slice HO136.out
    (first | subst eo43 | (injection eo43 with f1_ f2_ f3_; have f4_ := f1_.symm; have f5_ := f3_.symm; clear f1_ f2_ f3_; subst f4_; subst f5_))
    refine nQ ?_
    refine two2 (i := 10) (j := 11) (Ni := some 35) (Nj := some 10) HT_ rfl rfl rfl rfl (fun K hK => ?_) (fun K hK => ?_)
    ·refine gS Try.func19 #[.slice Ao25 t104.length co25, .slice Ao43 y134.length co43, .int .i64 t110] ?_
     with_reducible refine (field_Gather.calls k _ _ t104 _ _ y134 t110 t137 t138 t139 t140 t141 t142 _ ?side1 ?side2 ?side3 ?side4 A10.out).mono ?_
     (case side1 => exact rC HO106)
     (case side2 => exact rN HO106)
     (case side3 => exact rC HO136)
     (case side4 => exact rN HO136)
     rintro e w44 ⟨rfl, hb⟩
     refine ⟨_, rfl, ?_⟩
     replace HO106 := rB HO106 hb; replace HO109 := rB HO109 hb; replace HO133 := rB HO133 hb; replace HO136 := rB HO136 hb; replace BK101 := bB BK101 hb; replace BK102 := bB BK102 hb; replace BK117 := bB BK117 hb; replace HB := sB HB hb; (try clear hb); (try clear hb2); (try clear hk); (try clear hi)
     refine hK.out _ _ ⟨cE BK102 0, cE BK102 1, cE BK102 2, cE BK102 3, cE BK102 4, cE BK102 5⟩ (fun hHeld => ?_)
     clear hK K
     refine nX (some 35) ?_
     exact nV (hJ1_3_6_7_8_10 (v119, v122, v132, .slice Ao43 y134.length co43) _ ⟨hHeld, rD HO106, rD HO109, rD HO133, rD HO136, bD BK101, bD BK102, bD BK117, sD HB⟩)
    refine bS (N := 10) (cs := #[.int .i64 0, .int .i64 0, .int .i64 0, .int .i64 0, .int .i64 0, .int .i64 0]) (t := 40) ?_
    intro gb143 hg w43 hbox hb
    have BK143 := aM (hbox); have GW143 := gE hg HB; have GE143 := gE hg HB; have NB101_143 := nL hg BK101; have NB102_143 := nL hg BK102; have NB117_143 := nL hg BK117; replace HO106 := rB HO106 hb; replace HO109 := rB HO109 hb; replace HO133 := rB HO133 hb; replace HO136 := rB HO136 hb; replace BK101 := bB BK101 hb; replace BK102 := bB BK102 hb; replace BK117 := bB BK117 hb; replace HB := sB HB hb; clear hb hbox hg
    refine hK.out _ _ ⟨cE BK102 0, cE BK102 1, cE BK102 2, cE BK102 3, cE BK102 4, cE BK102 5⟩ (fun hHeld => ?_)
    clear hK K
    refine nX (some 10) ?_
    exact nV (hJ1_3_6_7_8_11 (v119, v122, v132, _, gb143) _ ⟨hHeld, rD HO106, rD HO109, rD HO133, rD HO136, bD BK101, bD BK102, bD BK117, bD BK143, GW143.out, GE143.out, NB101_143.out, NB102_143.out, NB117_143.out, sD HB⟩)
   rintro ⟨v119, v122, v132, v135, gb143⟩ w43 ⟨hS_, h0_, h1_, h2_, h3_, h4_, h5_, h6_, h7_, h8_, h9_, h10_, h12_, h14_, h16_⟩
   (try dsimp only at h0_ h1_ h2_ h3_ h4_ h5_ h6_ h7_ h8_ h9_ h10_ h12_ h14_ h16_)
   have HO133 := aM h2_; have HO136 := aM h3_; have BK143 := aM h7_; have GW143 := aM h8_; have GE143 := aM h9_; have NB101_143 := aM h10_; have NB102_143 := aM h12_; have NB117_143 := aM h14_; replace HO106 := aM h0_; replace HO109 := aM h1_; replace BK101 := aM h4_; replace BK102 := aM h5_; replace BK117 := aM h6_; replace HB := aM h16_; clear h0_ h1_ h2_ h3_ h4_ h5_ h6_ h7_ h8_ h9_ h10_ h12_ h14_ h16_
   (try dsimp only at hS_); have hHeld := hS_; clear hS_
   obtain ⟨Ao44, co44, eo44⟩ := Kd.R_slice HO136.out
   (first | subst eo44 | (injection eo44 with f1_ f2_ f3_; have f4_ := f1_.symm; have f5_ := f3_.symm; clear f1_ f2_ f3_; subst f4_; subst f5_))
   refine nQ ?_
   refine oX (i := 10) (N := some 35) rfl rfl HT_ (fun K hK => ?_)
   refine gS Try.func19 #[.slice Ao25 t104.length co25, .slice Ao44 y134.length co44, .int .i64 t110] ?_
   with_reducible refine (field_Gather.calls k _ _ t104 _ _ y134 t110 t137 t138 t139 t140 t141 t142 _ ?side1 ?side2 ?side3 ?side4 A10.out).mono ?_
   (case side1 => exact rC HO106)
   (case side2 => exact rN HO106)
   (case side3 => exact rC HO136)
   (case side4 => exact rN HO136)
   rintro e w45 ⟨rfl, hb⟩
   refine ⟨_, rfl, ?_⟩
   replace HO106 := rB HO106 hb; replace HO109 := rB HO109 hb; replace HO133 := rB HO133 hb; replace HO136 := rB HO136 hb; replace BK101 := bB BK101 hb; replace BK102 := bB BK102 hb; replace BK117 := bB BK117 hb; replace BK143 := bB BK143 hb; replace HB := sB HB hb; (try clear hb); (try clear hb2); (try clear hk); (try clear hi)
   refine hK.out _ _ ⟨cE BK102 0, cE BK102 1, cE BK102 2, cE BK102 3, cE BK102 4, cE BK102 5⟩ (fun hHeld => ?_)
   clear hK K
   refine nX (some 35) ?_
   exact nV (hJ1_3_6_7_8_10_11 (v119, v122, v132, .slice Ao44 y134.length co44, gb143) _ ⟨hHeld, rD HO106, rD HO109, rD HO133, rD HO136, bD BK101, bD BK102, bD BK117, bD BK143, GW143.out, GE143.out, NB101_143.out, NB102_143.out, NB117_143.out, sD HB⟩)
  rintro ⟨v119, v122, v132, v135⟩ w44 ⟨hS_, h0_, h1_, h2_, h3_, h4_, h5_, h6_, h7_⟩
  (try dsimp only at h0_ h1_ h2_ h3_ h4_ h5_ h6_ h7_)
  have HO133 := aM h2_; have HO136 := aM h3_; replace HO106 := aM h0_; replace HO109 := aM h1_; replace BK101 := aM h4_; replace BK102 := aM h5_; replace BK117 := aM h6_; replace HB := aM h7_; clear h0_ h1_ h2_ h3_ h4_ h5_ h6_ h7_
  (try dsimp only at hS_); have hHeld := hS_; clear hS_
  refine nQ ?_
  refine oX (i := 11) (N := some 10) rfl rfl HT_ (fun K hK => ?_)
  refine bS (N := 10) (cs := #[.int .i64 0, .int .i64 0, .int .i64 0, .int .i64 0, .int .i64 0, .int .i64 0]) (t := 40) ?_
  intro gb143 hg w45 hbox hb
  have BK143 := aM (hbox); have GW143 := gE hg HB; have GE143 := gE hg HB; have NB101_143 := nL hg BK101; have NB102_143 := nL hg BK102; have NB117_143 := nL hg BK117; replace HO106 := rB HO106 hb; replace HO109 := rB HO109 hb; replace HO133 := rB HO133 hb; replace HO136 := rB HO136 hb; replace BK101 := bB BK101 hb; replace BK102 := bB BK102 hb; replace BK117 := bB BK117 hb; replace HB := sB HB hb; clear hb hbox hg
  refine hK.out _ _ ⟨cE BK102 0, cE BK102 1, cE BK102 2, cE BK102 3, cE BK102 4, cE BK102 5⟩ (fun hHeld => ?_)
  clear hK K
  refine nX (some 10) ?_
  exact nV (hJ1_3_6_7_8_10_11 (v119, v122, v132, v135, gb143) _ ⟨hHeld, rD HO106, rD HO109, rD HO133, rD HO136, bD BK101, bD BK102, bD BK117, bD BK143, GW143.out, GE143.out, NB101_143.out, NB102_143.out, NB117_143.out, sD HB⟩)
 rintro ⟨v119, v122, v132, v135, gb143⟩ w45 ⟨hS_, h0_, h1_, h2_, h3_, h4_, h5_, h6_, h7_, h8_, h9_, h10_, h12_, h14_, h16_⟩
 (try dsimp only at h0_ h1_ h2_ h3_ h4_ h5_ h6_ h7_ h8_ h9_ h10_ h12_ h14_ h16_)
 have HO133 := aM h2_; have HO136 := aM h3_; have BK143 := aM h7_; have GW143 := aM h8_; have GE143 := aM h9_; have NB101_143 := aM h10_; have NB102_143 := aM h12_; have NB117_143 := aM h14_; replace HO106 := aM h0_; replace HO109 := aM h1_; replace BK101 := aM h4_; replace BK102 := aM h5_; replace BK117 := aM h6_; replace HB := aM h16_; clear h0_ h1_ h2_ h3_ h4_ h5_ h6_ h7_ h8_ h9_ h10_ h12_ h14_ h16_
 (try dsimp only at hS_); have hHeld := hS_; clear hS_
 refine nQ ?_
 refine oX (i := 12) (N := none) rfl rfl HT_ (fun K hK => ?_)
 have hs46 : w45.cell? ⟨gb143, 0, none⟩ = some (.int .i64 0) := (blk_cell BK143.out 0).trans rfl
 have hfs46 := blk_frozen BK143.out 0; have hns46_0 := NB101_143.out; have hns46_1 := NB102_143.out; have hns46_2 := NB117_143.out; have hms46_0 := NB101_143.out.symm; have hms46_1 := NB102_143.out.symm; have hms46_2 := NB117_143.out.symm
 have hs47 : w45.cell? ⟨gb143, 1, none⟩ = some (.int .i64 0) := (blk_cell BK143.out 1).trans rfl
 have hfs47 := blk_frozen BK143.out 1; have hns47_0 := NB101_143.out; have hns47_1 := NB102_143.out; have hns47_2 := NB117_143.out; have hms47_0 := NB101_143.out.symm; have hms47_1 := NB102_143.out.symm; have hms47_2 := NB117_143.out.symm
 have hs48 : w45.cell? ⟨gb143, 2, none⟩ = some (.int .i64 0) := (blk_cell BK143.out 2).trans rfl
 have hfs48 := blk_frozen BK143.out 2; have hns48_0 := NB101_143.out; have hns48_1 := NB102_143.out; have hns48_2 := NB117_143.out; have hms48_0 := NB101_143.out.symm; have hms48_1 := NB102_143.out.symm; have hms48_2 := NB117_143.out.symm
 have hs49 : w45.cell? ⟨gb143, 3, none⟩ = some (.int .i64 0) := (blk_cell BK143.out 3).trans rfl
 have hfs49 := blk_frozen BK143.out 3; have hns49_0 := NB101_143.out; have hns49_1 := NB102_143.out; have hns49_2 := NB117_143.out; have hms49_0 := NB101_143.out.symm; have hms49_1 := NB102_143.out.symm; have hms49_2 := NB117_143.out.symm
 have hs50 : w45.cell? ⟨gb143, 4, none⟩ = some (.int .i64 0) := (blk_cell BK143.out 4).trans rfl
 have hfs50 := blk_frozen BK143.out 4; have hns50_0 := NB101_143.out; have hns50_1 := NB102_143.out; have hns50_2 := NB117_143.out; have hms50_0 := NB101_143.out.symm; have hms50_1 := NB102_143.out.symm; have hms50_2 := NB117_143.out.symm
 have hs51 : w45.cell? ⟨gb143, 5, none⟩ = some (.int .i64 0) := (blk_cell BK143.out 5).trans rfl
 have hfs51 := blk_frozen BK143.out 5; have hns51_0 := NB101_143.out; have hns51_1 := NB102_143.out; have hns51_2 := NB117_143.out; have hms51_0 := NB101_143.out.symm; have hms51_1 := NB102_143.out.symm; have hms51_2 := NB117_143.out.symm
 refine skip_ (w1 := ?_) (by rfl) rfl ?_ ?_
 rotate_left
 ·go_simp
  rfl
 refine hK.out _ _ ⟨((cell_far (p := ⟨gb143, _, none⟩) NB102_143.out _).trans (((cell_far (p := ⟨gb143, _, none⟩) NB102_143.out _).trans (((cell_far (p := ⟨gb143, _, none⟩) NB102_143.out _).trans (((cell_far (p := ⟨gb143, _, none⟩) NB102_143.out _).trans (((cell_far (p := ⟨gb143, _, none⟩) NB102_143.out _).trans (((cell_far (p := ⟨gb143, _, none⟩) NB102_143.out _).trans (hHeld.1)))))))))))), ((cell_far (p := ⟨gb143, _, none⟩) NB102_143.out _).trans (((cell_far (p := ⟨gb143, _, none⟩) NB102_143.out _).trans (((cell_far (p := ⟨gb143, _, none⟩) NB102_143.out _).trans (((cell_far (p := ⟨gb143, _, none⟩) NB102_143.out _).trans (((cell_far (p := ⟨gb143, _, none⟩) NB102_143.out _).trans (((cell_far (p := ⟨gb143, _, none⟩) NB102_143.out _).trans (hHeld.2.1)))))))))))), ((cell_far (p := ⟨gb143, _, none⟩) NB102_143.out _).trans (((cell_far (p := ⟨gb143, _, none⟩) NB102_143.out _).trans (((cell_far (p := ⟨gb143, _, none⟩) NB102_143.out _).trans (((cell_far (p := ⟨gb143, _, none⟩) NB102_143.out _).trans (((cell_far (p := ⟨gb143, _, none⟩) NB102_143.out _).trans (((cell_far (p := ⟨gb143, _, none⟩) NB102_143.out _).trans (hHeld.2.2.1)))))))))))), ((cell_far (p := ⟨gb143, _, none⟩) NB102_143.out _).trans (((cell_far (p := ⟨gb143, _, none⟩) NB102_143.out _).trans (((cell_far (p := ⟨gb143, _, none⟩) NB102_143.out _).trans (((cell_far (p := ⟨gb143, _, none⟩) NB102_143.out _).trans (((cell_far (p := ⟨gb143, _, none⟩) NB102_143.out _).trans (((cell_far (p := ⟨gb143, _, none⟩) NB102_143.out _).trans (hHeld.2.2.2.1)))))))))))), ((cell_far (p := ⟨gb143, _, none⟩) NB102_143.out _).trans (((cell_far (p := ⟨gb143, _, none⟩) NB102_143.out _).trans (((cell_far (p := ⟨gb143, _, none⟩) NB102_143.out _).trans (((cell_far (p := ⟨gb143, _, none⟩) NB102_143.out _).trans (((cell_far (p := ⟨gb143, _, none⟩) NB102_143.out _).trans (((cell_far (p := ⟨gb143, _, none⟩) NB102_143.out _).trans (hHeld.2.2.2.2.1)))))))))))), ((cell_far (p := ⟨gb143, _, none⟩) NB102_143.out _).trans (((cell_far (p := ⟨gb143, _, none⟩) NB102_143.out _).trans (((cell_far (p := ⟨gb143, _, none⟩) NB102_143.out _).trans (((cell_far (p := ⟨gb143, _, none⟩) NB102_143.out _).trans (((cell_far (p := ⟨gb143, _, none⟩) NB102_143.out _).trans (((cell_far (p := ⟨gb143, _, none⟩) NB102_143.out _).trans (hHeld.2.2.2.2.2))))))))))))⟩ (fun hHeld => ?_)
 clear hK K
 refine done_ (done_of HT_.out (by kernel_rfl)) ?_
 try go_wp2_with (first | ((with_reducible refine gate_dst (N := 36) rfl ?_); refine Kd.R_lit (Kd.int .u64) _ 26 ?hg (N := 36) ?hd (xs := ([] : List Int)) (inner := []) (ok := fun _ => True) (okp := fun _ => True) ?hr ?hp (fun _ hk => hk) trivial (Below.refl _ _) (Nat.le_refl _) (by simp) ?_; (case hd => rfl); (case hg => rfl); (case hr => first | (go_simp; done) | (go_simp; rfl)); (case hp => exact (Reps.none _ _)); intro v145 w52 ho53 hb hg_ hnew_; clear hg_ hnew_; (first | rw [← Ny144.out] at ho53 | (simp only [Int.reduceToNat] at ho53; rw [← Ny144.out] at ho53)); have HO146 := aM (Kd.R_lower (Kd.R_new' ho53 (Kd.R_lt (rD ⟨(Kd.R_mono (Kd.R_far (p := ⟨gb143, 5, none⟩) (Kd.R_far (p := ⟨gb143, 4, none⟩) (Kd.R_far (p := ⟨gb143, 3, none⟩) (Kd.R_far (p := ⟨gb143, 2, none⟩) (Kd.R_far (p := ⟨gb143, 1, none⟩) (Kd.R_far (p := ⟨gb143, 0, none⟩) (Kd.R_types HO106.out BK143.out (by decide)) (fun _ hk => hk.2) (.int .i64 t137)) (fun _ hk => hk.2) (.int .i64 t138)) (fun _ hk => hk.2) (.int .i64 t139)) (fun _ hk => hk.2) (.int .i64 t140)) (fun _ hk => hk.2) (.int .i64 t141)) (fun _ hk => hk.2) (.int .i64 t142)) (fun _ h_ => h_.1))⟩))) (below_size (sD HB))); replace HO106 := aM (Kd.R_elder' (rD ⟨(Kd.R_mono (Kd.R_far (p := ⟨gb143, 5, none⟩) (Kd.R_far (p := ⟨gb143, 4, none⟩) (Kd.R_far (p := ⟨gb143, 3, none⟩) (Kd.R_far (p := ⟨gb143, 2, none⟩) (Kd.R_far (p := ⟨gb143, 1, none⟩) (Kd.R_far (p := ⟨gb143, 0, none⟩) (Kd.R_types HO106.out BK143.out (by decide)) (fun _ hk => hk.2) (.int .i64 t137)) (fun _ hk => hk.2) (.int .i64 t138)) (fun _ hk => hk.2) (.int .i64 t139)) (fun _ hk => hk.2) (.int .i64 t140)) (fun _ hk => hk.2) (.int .i64 t141)) (fun _ hk => hk.2) (.int .i64 t142)) (fun _ h_ => h_.1))⟩) (Kd.R_base ho53) hb); replace HO109 := aM (Kd.R_below (rD ⟨(Kd.R_mono (Kd.R_far (p := ⟨gb143, 5, none⟩) (Kd.R_far (p := ⟨gb143, 4, none⟩) (Kd.R_far (p := ⟨gb143, 3, none⟩) (Kd.R_far (p := ⟨gb143, 2, none⟩) (Kd.R_far (p := ⟨gb143, 1, none⟩) (Kd.R_far (p := ⟨gb143, 0, none⟩) (Kd.R_types HO109.out BK143.out (by decide)) (fun _ hk => hk.2) (.int .i64 t137)) (fun _ hk => hk.2) (.int .i64 t138)) (fun _ hk => hk.2) (.int .i64 t139)) (fun _ hk => hk.2) (.int .i64 t140)) (fun _ hk => hk.2) (.int .i64 t141)) (fun _ hk => hk.2) (.int .i64 t142)) (fun _ h_ => h_.1))⟩) hb); replace HO133 := aM (Kd.R_below (rD ⟨(Kd.R_mono (Kd.R_far (p := ⟨gb143, 5, none⟩) (Kd.R_far (p := ⟨gb143, 4, none⟩) (Kd.R_far (p := ⟨gb143, 3, none⟩) (Kd.R_far (p := ⟨gb143, 2, none⟩) (Kd.R_far (p := ⟨gb143, 1, none⟩) (Kd.R_far (p := ⟨gb143, 0, none⟩) (Kd.R_types HO133.out BK143.out (by decide)) (fun _ hk => hk.2) (.int .i64 t137)) (fun _ hk => hk.2) (.int .i64 t138)) (fun _ hk => hk.2) (.int .i64 t139)) (fun _ hk => hk.2) (.int .i64 t140)) (fun _ hk => hk.2) (.int .i64 t141)) (fun _ hk => hk.2) (.int .i64 t142)) (fun _ h_ => h_.1))⟩) hb); replace HO136 := aM (Kd.R_below (rD ⟨(Kd.R_mono (Kd.R_far (p := ⟨gb143, 5, none⟩) (Kd.R_far (p := ⟨gb143, 4, none⟩) (Kd.R_far (p := ⟨gb143, 3, none⟩) (Kd.R_far (p := ⟨gb143, 2, none⟩) (Kd.R_far (p := ⟨gb143, 1, none⟩) (Kd.R_far (p := ⟨gb143, 0, none⟩) (Kd.R_types HO136.out BK143.out (by decide)) (fun _ hk => hk.2) (.int .i64 t137)) (fun _ hk => hk.2) (.int .i64 t138)) (fun _ hk => hk.2) (.int .i64 t139)) (fun _ hk => hk.2) (.int .i64 t140)) (fun _ hk => hk.2) (.int .i64 t141)) (fun _ hk => hk.2) (.int .i64 t142)) (fun _ h_ => h_.1))⟩) hb); replace BK101 := aM (blk_below (g := gb101) (o := .cells #[.int .u8 a0_0, .slice A0_1 l0_1.length c0_1, .int .u8 a0_2] 24 (0, 0)) (bF BK101) hb); replace BK102 := aM (blk_below (g := gb102) (o := .cells #[.int .u8 a1_0, .int .u8 a1_1, .int .u8 a1_2, .int .u8 a1_3, .int .u8 a1_4, .int .u8 a1_5] 58 (0, 0)) (bF BK102) hb); replace BK117 := aM (blk_below (g := gb117) (o := .cells #[.int .i64 t111, .int .i64 t112, .int .i64 t113, .int .i64 t114, .int .i64 t115, .int .i64 t116] 40 (0, 0)) (bF BK117) hb); replace HB := sB HB hb; replace BK143 := aM (blk_below (g := gb143) (o := .cells #[.int .i64 t137, .int .i64 t138, .int .i64 t139, .int .i64 t140, .int .i64 t141, .int .i64 t142] 40 (0, 0)) (by refine bM ?_; refine blk_put (cs := #[.int .i64 t137, .int .i64 t138, .int .i64 t139, .int .i64 t140, .int .i64 t141, .int .i64 0]) ?_ 5 _ rfl; refine bM ?_; refine blk_put (cs := #[.int .i64 t137, .int .i64 t138, .int .i64 t139, .int .i64 t140, .int .i64 0, .int .i64 0]) ?_ 4 _ rfl; refine bM ?_; refine blk_put (cs := #[.int .i64 t137, .int .i64 t138, .int .i64 t139, .int .i64 0, .int .i64 0, .int .i64 0]) ?_ 3 _ rfl; refine bM ?_; refine blk_put (cs := #[.int .i64 t137, .int .i64 t138, .int .i64 0, .int .i64 0, .int .i64 0, .int .i64 0]) ?_ 2 _ rfl; refine bM ?_; refine blk_put (cs := #[.int .i64 t137, .int .i64 0, .int .i64 0, .int .i64 0, .int .i64 0, .int .i64 0]) ?_ 1 _ rfl; refine bM ?_; refine blk_put (cs := #[.int .i64 0, .int .i64 0, .int .i64 0, .int .i64 0, .int .i64 0, .int .i64 0]) ?_ 0 _ rfl; exact bD BK143) hb); clear hb ho53) | ((with_reducible refine gate_builtin (b := .append) (xs := #[.tmp 36, .tmp 37]) rfl ?_); at_builtin; refine Kd.R_append_rows (Kd.int .u64) (w0 := w) w.heap.size rfl (.tmp 36) (.tmp 37) 30 26 (.int .u64 0) 8 rfl Try.underlying30 info26 rfl (by decide) (by omega) v145 y144 t104 _ _ _ (fun k_ => some k_ ≠ (.slice Ao25 t104.length co25 : Value).ownBlock) (fun _ => False) rfl rfl ?aO ?aR (fun _ _ h => h) (fun _ h => h.elim) ?aF ?aB ?aS ?aL ?_; (case aR => repeat (first | exact (Kd.R_reads' HO106.out).2.2 | (with_reducible refine Kd.C_alloc ?_ _) | (with_reducible refine Kd.C_drewN ?_ _) | (with_reducible refine Kd.C_drew ?_))); (case aB => exact (sD HB)); (case aF => exact (fun k_ hk => Kd.fresh' (Kd.R_lt (rD HO106)) k_ hk)); (case aO => exact (rD ⟨Kd.R_mono HO146.out (fun _ hk => hk.2)⟩)); (case aS => exact (below_size (sD HB))); (case aL => have := LMc11.out; omega); intro v148 w54 ho hb hg hat; rw [← Ny147.out] at ho; have HO149 := aM (ho); replace BK101 := aM (blk_grown (g := gb101) (o := .cells #[.int .u8 a0_0, .slice A0_1 l0_1.length c0_1, .int .u8 a0_2] 24 (0, 0)) (bD BK101) hg (Kd.R_ne HO146.out BK101.out (by decide))); replace BK102 := aM (blk_grown (g := gb102) (o := .cells #[.int .u8 a1_0, .int .u8 a1_1, .int .u8 a1_2, .int .u8 a1_3, .int .u8 a1_4, .int .u8 a1_5] 58 (0, 0)) (bD BK102) hg (Kd.R_ne HO146.out BK102.out (by decide))); replace HO106 := aM (Kd.R_after (ok := (fun _ => True)) (rD HO106) hg hat); replace HO109 := aM (Kd.R_over' (rD HO109) (Kd.R_typed (rD HO146)) (by decide) hg); replace BK117 := aM (blk_grown (g := gb117) (o := .cells #[.int .i64 t111, .int .i64 t112, .int .i64 t113, .int .i64 t114, .int .i64 t115, .int .i64 t116] 40 (0, 0)) (bD BK117) hg (Kd.R_ne HO146.out BK117.out (by decide))); replace HO133 := aM (Kd.R_over' (rD HO133) (Kd.R_typed (rD HO146)) (by decide) hg); replace HO136 := aM (Kd.R_over' (rD HO136) (Kd.R_typed (rD HO146)) (by decide) hg); replace BK143 := aM (blk_grown (g := gb143) (o := .cells #[.int .i64 t137, .int .i64 t138, .int .i64 t139, .int .i64 t140, .int .i64 t141, .int .i64 t142] 40 (0, 0)) (bD BK143) hg (Kd.R_ne HO146.out BK143.out (by decide))); replace HB := aM (hb); clear HO146; clear ho hb hg hat) | ((with_reducible refine gate_dst (N := 39) rfl ?_); refine Kd.R_lit (Kd.int .u64) _ 26 ?hg (N := 39) ?hd (xs := ([3] : List Int)) (inner := [.int .u64 3]) (ok := fun _ => True) (okp := fun _ => True) ?hr ?hp (fun _ hk => hk) trivial (Below.refl _ _) (Nat.le_refl _) (by simp) ?_; (case hd => rfl); (case hg => rfl); (case hr => first | (go_simp; done) | (go_simp; rfl)); (case hp => exact (Reps.one (show Kd.M (Kd.int .u64) _ _ _ 3 [.int .u64 3] from rfl) (Reps.none _ _))); intro v151 w55 ho56 hb hg_ hnew_; clear hg_ hnew_; (first | rw [← Ny150.out] at ho56 | (simp only [Int.reduceToNat] at ho56; rw [← Ny150.out] at ho56)); have HO152 := aM (Kd.R_lower (Kd.R_new' (Kd.R_new' ho56 (Kd.R_lt (rD HO106))) (Kd.R_lt (rD HO149))) (below_size (sD HB))); replace HO106 := aM (Kd.R_elder' (rD HO106) (Kd.R_base ho56) hb); replace HO109 := rB HO109 hb; replace HO133 := rB HO133 hb; replace HO136 := rB HO136 hb; replace HO149 := aM (Kd.R_elder' (rD HO149) (Kd.R_base ho56) hb); replace BK101 := bB BK101 hb; replace BK102 := bB BK102 hb; replace BK117 := bB BK117 hb; replace BK143 := bB BK143 hb; replace HB := sB HB hb; clear hb ho56; obtain ⟨Ao58, co58, eo58⟩ := Kd.R_slice HO152.out; subst eo58) | ((with_reducible refine gate_builtin (b := .append) (xs := #[.tmp 38, .tmp 39]) rfl ?_); at_builtin; refine Kd.R_append_rows (Kd.int .u64) (w0 := w) w.heap.size rfl (.tmp 38) (.tmp 39) 30 26 (.int .u64 0) 8 rfl Try.underlying30 info26 rfl (by decide) (by omega) v148 y147 y150 _ _ _ (fun k_ => some k_ ≠ (.slice Ao25 t104.length co25 : Value).ownBlock ∧ some k_ ≠ (.slice Ao58 y150.length co58 : Value).ownBlock) (fun _ => False) rfl rfl ?aO ?aR (fun _ _ h => h) (fun _ h => h.elim) ?aF ?aB ?aS ?aL ?_; (case aR => repeat (first | exact (Kd.R_reads' HO152.out).2.2 | (with_reducible refine Kd.C_alloc ?_ _) | (with_reducible refine Kd.C_drewN ?_ _) | (with_reducible refine Kd.C_drew ?_))); (case aB => exact (sD HB)); (case aF => exact (fun k_ hk => ⟨Kd.fresh' (Kd.R_lt (rD HO106)) k_ hk, Kd.fresh' (Kd.R_lt (rD HO152)) k_ hk⟩)); (case aO => exact (rD HO149)); (case aS => exact (below_size (sD HB))); (case aL => have := LMc12.out; omega); intro v154 w57 ho hb hg hat; rw [← Ny153.out] at ho; have HO155 := aM (ho); replace BK101 := aM (blk_grown (g := gb101) (o := .cells #[.int .u8 a0_0, .slice A0_1 l0_1.length c0_1, .int .u8 a0_2] 24 (0, 0)) (bD BK101) hg (Kd.R_ne HO149.out BK101.out (by decide))); replace BK102 := aM (blk_grown (g := gb102) (o := .cells #[.int .u8 a1_0, .int .u8 a1_1, .int .u8 a1_2, .int .u8 a1_3, .int .u8 a1_4, .int .u8 a1_5] 58 (0, 0)) (bD BK102) hg (Kd.R_ne HO149.out BK102.out (by decide))); replace HO106 := aM (Kd.R_after (ok := (fun k_ => some k_ ≠ (.slice Ao58 y150.length co58 : Value).ownBlock)) (rD ⟨Kd.R_mono HO106.out (fun _ hk => ⟨hk.2, hk.1.2⟩)⟩) hg hat); replace HO109 := aM (Kd.R_over' (rD HO109) (Kd.R_typed (rD HO149)) (by decide) hg); replace BK117 := aM (blk_grown (g := gb117) (o := .cells #[.int .i64 t111, .int .i64 t112, .int .i64 t113, .int .i64 t114, .int .i64 t115, .int .i64 t116] 40 (0, 0)) (bD BK117) hg (Kd.R_ne HO149.out BK117.out (by decide))); replace HO133 := aM (Kd.R_over' (rD HO133) (Kd.R_typed (rD HO149)) (by decide) hg); replace HO136 := aM (Kd.R_over' (rD HO136) (Kd.R_typed (rD HO149)) (by decide) hg); replace BK143 := aM (blk_grown (g := gb143) (o := .cells #[.int .i64 t137, .int .i64 t138, .int .i64 t139, .int .i64 t140, .int .i64 t141, .int .i64 t142] 40 (0, 0)) (bD BK143) hg (Kd.R_ne HO149.out BK143.out (by decide))); replace HO152 := aM (Kd.R_after (ok := (fun k_ => some k_ ≠ (.slice Ao25 t104.length co25 : Value).ownBlock)) (rD ⟨Kd.R_mono HO152.out (fun _ hk => ⟨hk.1.2, hk.2⟩)⟩) hg hat); replace HB := aM (hb); clear HO149; clear ho hb hg hat; obtain ⟨Ao59, co59, eo59⟩ := Kd.R_slice HO155.out; subst eo59) | ((with_reducible refine gate_callee (f := 19) rfl ?_); refine gL (some 43) Try.func19 #[.slice Ao59 y153.length co59, .slice Ao26 t107.length co26, .int .i64 t110] ?_; (with_reducible refine (field_Gather.calls k _ _ y153 _ _ t107 t110 t156 t157 t158 t159 t160 t161 _ ?side1 ?side2 ?side3 ?side4 A13.out).mono ?_); (case side1 => exact rC HO155); (case side2 => exact rN HO155); (case side3 => exact rC HO109); (case side4 => exact rN HO109); rintro e w60 ⟨rfl, hb⟩; refine ⟨_, rfl, ?_⟩; replace HO106 := rB HO106 hb; replace HO109 := rB HO109 hb; replace HO133 := rB HO133 hb; replace HO136 := rB HO136 hb; replace HO152 := rB HO152 hb; replace HO155 := rB HO155 hb; replace BK101 := bB BK101 hb; replace BK102 := bB BK102 hb; replace BK117 := bB BK117 hb; replace BK143 := bB BK143 hb; replace HB := sB HB hb; (try clear hb)) | ((with_reducible refine gate_dst (N := 11) rfl ?_); refine bE (N := 11) (cs := #[.int .i64 0, .int .i64 0, .int .i64 0, .int .i64 0, .int .i64 0, .int .i64 0]) (t := 40) ?_; intro gb162 hg w61 hbox hb; have BK162 := aM (hbox); have GW162 := gE hg HB; have GE162 := gE hg HB; have NB101_162 := nL hg BK101; have NB102_162 := nL hg BK102; have NB117_162 := nL hg BK117; have NB143_162 := nL hg BK143; replace HO106 := rB HO106 hb; replace HO109 := rB HO109 hb; replace HO133 := rB HO133 hb; replace HO136 := rB HO136 hb; replace HO152 := rB HO152 hb; replace HO155 := rB HO155 hb; replace BK101 := bB BK101 hb; replace BK102 := bB BK102 hb; replace BK117 := bB BK117 hb; replace BK143 := bB BK143 hb; replace HB := sB HB hb; clear hb hbox hg; have hnb62 := NB101_162.out.symm; have hnc62 := NB101_162.out; have hnb63 := NB102_162.out.symm; have hnc63 := NB102_162.out; have hnb64 := NB117_162.out.symm; have hnc64 := NB117_162.out; have hnb65 := NB143_162.out.symm; have hnc65 := NB143_162.out; obtain ⟨hcz66_0, hcz66_1, hcz66_2, hcz66_3, hcz66_4, hcz66_5, hfz66_0, hfz66_1, hfz66_2, hfz66_3, hfz66_4, hfz66_5⟩ := cZ6 BK162; have hnb67 := NB117_143.out; have hnc67 := NB117_143.out.symm; obtain ⟨hcz68_0, hcz68_1, hcz68_2, hcz68_3, hcz68_4, hcz68_5, hfz68_0, hfz68_1, hfz68_2, hfz68_3, hfz68_4, hfz68_5⟩ := cZ6 BK117; have hnb69 := NB101_143.out.symm; have hnc69 := NB101_143.out; have hnb70 := NB102_143.out.symm; have hnc70 := NB102_143.out; obtain ⟨hcz71_0, hcz71_1, hcz71_2, hcz71_3, hcz71_4, hcz71_5, hfz71_0, hfz71_1, hfz71_2, hfz71_3, hfz71_4, hfz71_5⟩ := cZ6 BK143))
 go_ret
 exact ⟨by first | rfl | (simp [errW_none, errW_some] <;> rfl) | (simp [*, errW_none, errW_some] <;> rfl), sD HB⟩
/-- THE ONE PURE STATEMENT of parolelaw32_FieldMore. -/
def parolelaw32_FieldMore.Pure : Prop := ∀ (a0_0 : Int) (l0_1 : List (S58)) (a0_2 : Int) (a1_0 : Int) (a1_1 : Int) (a1_2 : Int) (a1_3 : Int) (a1_4 : Int) (a1_5 : Int), ((Lit.int .u8 a0_0).wf = true ∧ (l0_1.length ≤ maxLen ∧ ∀ x163 ∈ l0_1, (((Lit.int .u8 x163.f0.f0).wf = true ∧ (Lit.int .u8 x163.f0.f1).wf = true ∧ (Lit.int .u8 x163.f0.f2).wf = true ∧ (Lit.int .u8 x163.f0.f3).wf = true ∧ (Lit.int .u8 x163.f0.f4).wf = true ∧ (Lit.int .u8 x163.f0.f5).wf = true))) ∧ (Lit.int .u8 a0_2).wf = true) → (((Lit.int .u8 a1_0).wf = true ∧ (Lit.int .u8 a1_1).wf = true ∧ (Lit.int .u8 a1_2).wf = true ∧ (Lit.int .u8 a1_3).wf = true ∧ (Lit.int .u8 a1_4).wf = true ∧ (Lit.int .u8 a1_5).wf = true)) → ∃ k, parolelaw32_FieldMore.f k a0_0 l0_1 a0_2 a1_0 a1_1 a1_2 a1_3 a1_4 a1_5 = some true
end Go.Proofs.Ytfdoncgljohndaa.P
namespace Go.Proofs.Ytfdoncgljohndaa.R
open Go.RowKit Go.Proofs.Ytfdoncgljohndaa.P Go.Proofs.YtfdoncgljohndaaW.PrintWords Go.Proofs.YtfdoncgljohndaaW.PrintLast Go.Proofs.YtfdoncgljohndaaW.PrintMore
theorem wrap64_of {n : Int} (h0 : -9223372036854775808 ≤ n) (h1 : n ≤ 9223372036854775807) : wrap64 n = n := by
 unfold wrap64
 omega
theorem u64_of {n : Int} (h0 : 0 ≤ n) (h1 : n ≤ 18446744073709551615) : IntKind.u64.wrap n = n := by
 unfold IntKind.wrap
 simp [IntKind.signed, IntKind.bits]
 omega
theorem u64_def (n : Int) : IntKind.u64.wrap n = n % 18446744073709551616 := by
 unfold IntKind.wrap
 simp [IntKind.signed, IntKind.bits]
theorem Ev.pos {α : Type} {c : Prop} [Decidable c] {g f : Nat → Option α} {r : α} (hc : c) (h : Ev g r) : Ev (fun n => if c then g n else f n) r := Ev.congr (fun _ => if_pos hc) h
theorem Ev.neg {α : Type} {c : Prop} [Decidable c] {g f : Nat → Option α} {r : α} (hc : ¬ c) (h : Ev f r) : Ev (fun n => if c then g n else f n) r := Ev.congr (fun _ => if_neg hc) h
theorem Ev.succ {α : Type} {g : Nat → Option α} {r : α} (h : Ev (fun k => g (k + 1)) r) : Ev g r := Ev.step (fun _ => rfl) h
theorem Ev.const {α : Type} {o : Option α} {r : α} (h : o = some r) : Ev (fun _ => o) r := ⟨0, fun _ _ => h⟩
theorem Ev.cbind {α β : Type} {o : Option α} {f : Nat → α → Option β} {a : α} {r : β} (h : o = some a) (k : Ev (fun n => f n a) r) : Ev (fun n => o.bind (f n)) r := Ev.bind (Ev.const h) k
end Go.Proofs.Ytfdoncgljohndaa.R
namespace Go.Fld
/-- The step of a digest, on natural numbers. -/
def stepN (h w : Nat) : Nat :=
 let x := ((h ^^^ w) * 11400714819323198485) % 18446744073709551616
 let y := ((x ^^^ (x >>> 29)) * 13787848793156543929) % 18446744073709551616
 y ^^^ (y >>> 32)
theorem xor_lt {a b : Nat} (ha : a < 18446744073709551616) (hb : b < 18446744073709551616) : a ^^^ b < 18446744073709551616 := Nat.xor_lt_two_pow (n := 64) ha hb
theorem shr_lt {a : Nat} (s : Nat) (ha : a < 18446744073709551616) : a >>> s < 18446744073709551616 := by
 rw [Nat.shiftRight_eq_div_pow]; exact Nat.lt_of_le_of_lt (Nat.div_le_self _ _) ha
theorem stepN_lt (h w : Nat) : stepN h w < 18446744073709551616 := by
 unfold stepN
 exact xor_lt (Nat.mod_lt _ (by decide)) (shr_lt _ (Nat.mod_lt _ (by decide)))
theorem bits_xor_u64 {a b : Nat} (ha : a < 18446744073709551616) (hb : b < 18446744073709551616) : bits .xor .u64 (a : Int) (b : Int) = ((a ^^^ b : Nat) : Int) := by
 have ha' : a % 2 ^ 64 = a := Nat.mod_eq_of_lt ha
 have hb' : b % 2 ^ 64 = b := Nat.mod_eq_of_lt hb
 have hk : IntKind.u64.bits = 64 := rfl
 simp only [bits, hk, BitVec.ofInt_natCast, BitVec.toNat_xor, BitVec.toNat_ofNat, ha', hb']
 simp only [IntKind.wrap, IntKind.bits, IntKind.signed]
 have := xor_lt ha hb
 simp
 omega
end Go.Fld
namespace Go.Proofs.Ytfdoncgljohndaa.R
open Go.RowKit Go.Fld Go.Proofs.Ytfdoncgljohndaa.P Go.Proofs.YtfdoncgljohndaaW.PrintWords Go.Proofs.YtfdoncgljohndaaW.PrintLast Go.Proofs.YtfdoncgljohndaaW.PrintMore
/-- A number of 64 bits, as_ a natural number. -/
def u (w : Int) : Nat := (w % 18446744073709551616).toNat
theorem u_lt (w : Int) : u w < 18446744073709551616 := by unfold u; omega
theorem u_wrap (w : Int) : IntKind.u64.wrap w = (u w : Int) := by rw [u64_def]; unfold u; omega
theorem step_of (h w : Nat) (hh : h < 18446744073709551616) (hw : w < 18446744073709551616) : digest_Step.f (h : Int) (w : Int) = some (stepN h w : Int) := by
 have x0 := xor_lt hh hw
 have e0 := bits_xor_u64 hh hw
 have l : ∀ n : Nat, n % 18446744073709551616 < 18446744073709551616 := fun n => Nat.mod_lt _ (by decide)
 have m1 : IntKind.u64.wrap (((h ^^^ w : Nat) : Int) * 11400714819323198485) = (((h ^^^ w) * 11400714819323198485 % 18446744073709551616 : Nat) : Int) := by rw [u64_def]; omega
 obtain ⟨x, hx⟩ : ∃ x, x = (h ^^^ w) * 11400714819323198485 % 18446744073709551616 := ⟨_, rfl⟩
 have lx : x < 18446744073709551616 := by rw [hx]; exact l _
 have d1 : (x : Int) / (536870912 : Int) = ((x >>> 29 : Nat) : Int) := by rw [Nat.shiftRight_eq_div_pow]; omega
 have e1 := bits_xor_u64 lx (shr_lt 29 lx)
 have m2 : IntKind.u64.wrap (((x ^^^ (x >>> 29) : Nat) : Int) * 13787848793156543929) = (((x ^^^ (x >>> 29)) * 13787848793156543929 % 18446744073709551616 : Nat) : Int) := by rw [u64_def]; omega
 obtain ⟨y, hy⟩ : ∃ y, y = (x ^^^ (x >>> 29)) * 13787848793156543929 % 18446744073709551616 := ⟨_, rfl⟩
 have ly : y < 18446744073709551616 := by rw [hy]; exact l _
 have d2 : (y : Int) / (4294967296 : Int) = ((y >>> 32 : Nat) : Int) := by rw [Nat.shiftRight_eq_div_pow]; omega
 have e2 := bits_xor_u64 ly (shr_lt 32 ly)
 unfold digest_Step.f
 rw [e0, m1, ← hx, d1, e1, m2, ← hy, d2, e2]
 unfold stepN
 rw [← hx]
 simp only []
 rw [← hy]
/-- The digest of a list, from h on. -/
def wordsFrom (h : Nat) (l : List Int) : Nat := l.foldl (fun h w => stepN h (u w)) h
def wordsN (l : List Int) : Nat := wordsFrom (stepN 2611923443488327891 l.length) l
theorem wordsFrom_lt (l : List Int) : ∀ h, h < 18446744073709551616 → wordsFrom h l < 18446744073709551616 := by
 induction l with
 | nil => intro h hh; exact hh
 | cons x l ih => intro h hh; exact ih _ (stepN_lt _ _)
theorem wordsN_lt (l : List Int) : wordsN l < 18446744073709551616 := wordsFrom_lt _ _ (stepN_lt _ _)
theorem words_l0 (l : List Int) (hl : l.length < 1000000000) : ∀ (d i h : Nat), i + d = l.length → h < 18446744073709551616 → Ev (fun k => digest_Words.l0 k (h : Int) l (l.length : Int) (i : Int)) (wordsFrom h (l.drop i) : Int) := by
 intro d
 induction d with
 | zero =>
  intro i h hi hh
  refine Ev.succ ?_
  simp only [digest_Words.l0]
  refine Ev.neg (by omega) ?_
  rw [List.drop_eq_nil_of_le (by omega)]
  exact Ev.now _
 | succ d ih =>
  intro i h hi hh
  refine Ev.succ ?_
  simp only [digest_Words.l0]
  have hlt : i < l.length := by omega
  have er : rd l (i : Int) = l[i] := by unfold rd; simp [hlt]
  have hw : wrap64 ((i : Int) + 1) = ((i + 1 : Nat) : Int) := by rw [wrap64_of (by omega) (by omega)]; omega
  refine Ev.pos (by omega) (Ev.pos (by omega) (Ev.pos (by omega) ?_))
  rw [er, u_wrap, hw, List.drop_eq_getElem_cons hlt]
  refine Ev.cbind (step_of h _ hh (u_lt _)) ?_
  exact ih (i + 1) _ (by omega) (stepN_lt _ _)
theorem ev_Words (l : List Int) (hl : l.length < 1000000000) : Ev (fun k => digest_Words.f k l) (wordsN l : Int) := by
 unfold digest_Words.f
 rw [u64_of (by omega) (by omega)]
 refine Ev.cbind (step_of 2611923443488327891 l.length (by decide) (by omega)) ?_
 exact words_l0 l hl l.length 0 _ (by omega) (stepN_lt _ _)
theorem rwords_l0 (l : List Int) (hl : l.length < 1000000000) : ∀ (d i h : Nat), i + d = l.length → h < 18446744073709551616 → Ev (fun k => paroleref03_Words.l0 k l (h : Int) (i : Int)) (wordsFrom h (l.drop i) : Int) := by
 intro d
 induction d with
 | zero =>
  intro i h hi hh
  refine Ev.succ ?_
  simp only [paroleref03_Words.l0]
  refine Ev.neg (by omega) ?_
  rw [List.drop_eq_nil_of_le (by omega)]
  exact Ev.now _
 | succ d ih =>
  intro i h hi hh
  refine Ev.succ ?_
  simp only [paroleref03_Words.l0]
  have hlt : i < l.length := by omega
  have er : rd l (i : Int) = l[i] := by unfold rd; simp [hlt]
  have hw : wrap64 ((i : Int) + 1) = ((i + 1 : Nat) : Int) := by rw [wrap64_of (by omega) (by omega)]; omega
  refine Ev.pos (by omega) (Ev.pos (by omega) ?_)
  rw [er, u_wrap, hw, List.drop_eq_getElem_cons hlt]
  refine Ev.cbind (step_of h _ hh (u_lt _)) ?_
  exact ih (i + 1) _ (by omega) (stepN_lt _ _)
theorem ev_RWords (l : List Int) (hl : l.length < 1000000000) : Ev (fun k => paroleref03_Words.f k l) (wordsN l : Int) := by
 unfold paroleref03_Words.f
 rw [u64_of (by omega) (by omega)]
 refine Ev.cbind (step_of 2611923443488327891 l.length (by decide) (by omega)) ?_
 exact rwords_l0 l hl l.length 0 _ (by omega) (stepN_lt _ _)
def joinN (a b : Nat) : Nat := stepN (stepN 11820040416388919760 a) b
theorem join_of (a b : Nat) (ha : a < 18446744073709551616) (hb : b < 18446744073709551616) : digest_Join.f (a : Int) (b : Int) = some (joinN a b : Int) := by
 unfold digest_Join.f
 have h1 := step_of 11820040416388919760 a (by decide) ha
 have h2 := step_of (stepN 11820040416388919760 a) b (stepN_lt _ _) hb
 rw [show ((11820040416388919760 : Nat) : Int) = 11820040416388919760 from rfl] at h1
 rw [h1, Option.bind_some, h2, Option.bind_some]
 rfl
theorem rjoin_of (a b : Nat) (ha : a < 18446744073709551616) (hb : b < 18446744073709551616) : paroleref03_Join.f (a : Int) (b : Int) = some (joinN a b : Int) := join_of a b ha hb
/-- The tag of a report. -/
def nums (c : S28) : List Int := [c.f0, c.f1, c.f2, c.f3, c.f4, c.f5]
def tagN (key : Nat) (c : S28) : Nat := joinN key (wordsN (nums c))
theorem ev_Tag (key : Nat) (hk : key < 18446744073709551616) (c : S28) : Ev (fun k => field_Tag.f k (key : Int) c.f0 c.f1 c.f2 c.f3 c.f4 c.f5 c.f6) (tagN key c : Int) := by
 unfold field_Tag.f
 refine Ev.bind (ev_Words _ (by simp)) (Ev.cbind (join_of _ _ hk (wordsN_lt _)) (Ev.now _))
theorem ev_RTag (key : Nat) (hk : key < 18446744073709551616) (c : S28) : Ev (fun k => paroleref32_Tag.f k (key : Int) c.f0 c.f1 c.f2 c.f3 c.f4 c.f5 c.f6) (tagN key c : Int) := by
 unfold paroleref32_Tag.f
 refine Ev.bind (ev_RWords _ (by simp)) (Ev.cbind (rjoin_of _ _ hk (wordsN_lt _)) (Ev.now _))
def signN (key : Nat) (c : S28) : S28 := ⟨c.f0, c.f1, c.f2, c.f3, c.f4, c.f5, (tagN key c : Int)⟩
def tup (c : S28) : Int × Int × Int × Int × Int × Int × Int := (c.f0, c.f1, c.f2, c.f3, c.f4, c.f5, c.f6)
theorem ev_RSign (key : Nat) (hk : key < 18446744073709551616) (c : S28) : Ev (fun k => paroleref32_Sign.f k (key : Int) c.f0 c.f1 c.f2 c.f3 c.f4 c.f5 c.f6) (tup (signN key c)) := by
 unfold paroleref32_Sign.f
 exact Ev.bind (ev_RTag key hk c) (Ev.now _)
/-- The keys, as_ natural numbers. -/
def KeysOk (keys : List Int) : Prop := ∀ x ∈ keys, 0 ≤ x ∧ x < 18446744073709551616
def keyAt (keys : List Int) (i : Int) : Nat := (rd keys i).toNat
theorem key_at {keys : List Int} (h : KeysOk keys) {i : Int} (h0 : 0 ≤ i) (h1 : i < keys.length) : rd keys i = (keyAt keys i : Int) ∧ keyAt keys i < 18446744073709551616 := by
 have hm : rd keys i ∈ keys := by
  unfold rd
  rw [List.getD_eq_getElem?_getD, List.getElem?_eq_getElem (show i.toNat < keys.length by omega)]
  exact List.getElem_mem _
 have := h _ hm
 unfold keyAt
 omega
def shapeB (n : Nat) (c : S28) : Bool := decide (0 ≤ c.f0) && decide (c.f0 < (n : Int)) && decide (1 ≤ c.f1) && decide (c.f1 ≤ 1073741824) && decide (0 ≤ c.f5) && decide (c.f5 ≤ c.f4) && decide (c.f4 ≤ c.f3) && decide (c.f3 ≤ 1099511627776)
def rightB (keys : List Int) (c : S28) : Bool := shapeB keys.length c && (c.f6 == (tagN (keyAt keys c.f0) c : Int))
theorem shapeB_iff {n : Nat} {c : S28} : shapeB n c = true ↔ (0 ≤ c.f0 ∧ c.f0 < n ∧ 1 ≤ c.f1 ∧ c.f1 ≤ 1073741824 ∧ 0 ≤ c.f5 ∧ c.f5 ≤ c.f4 ∧ c.f4 ≤ c.f3 ∧ c.f3 ≤ 1099511627776) := by
 unfold shapeB
 simp only [Bool.and_eq_true, decide_eq_true_eq]
 omega
theorem ev_Right {keys : List Int} (hk : KeysOk keys) (c : S28) : Ev (fun k => okR k keys c) (if rightB keys c = true then 0 else 320) := by
 unfold okR field_Right.f
 have j1t : Ev (fun k => field_Right.j1 k keys true c.f0 c.f1 c.f2 c.f3 c.f4 c.f5 c.f6) 320 := by
  refine Ev.succ ?_
  unfold field_Right.j1
  exact Ev.pos rfl (Ev.now _)
 have j2t : Ev (fun k => field_Right.j2 k keys true c.f0 c.f1 c.f2 c.f3 c.f4 c.f5 c.f6) 320 := by
  refine Ev.succ ?_
  unfold field_Right.j2
  exact Ev.pos rfl (Ev.now _)
 have j0t : Ev (fun k => field_Right.j0 k keys true c.f0 c.f1 c.f2 c.f3 c.f4 c.f5 c.f6) 320 := by
  refine Ev.succ ?_
  unfold field_Right.j0
  exact Ev.pos rfl j1t
 by_cases hs : shapeB keys.length c = true
 ·have hs' := shapeB_iff.1 hs
  refine Ev.neg (by omega) ?_
  rw [decide_eq_false (by omega)]
  refine Ev.succ ?_
  simp only [field_Right.j0]
  refine Ev.neg (by simp) (Ev.neg (by omega) ?_)
  rw [decide_eq_false (by omega)]
  refine Ev.succ ?_
  simp only [field_Right.j1]
  refine Ev.neg (by simp) (Ev.neg (by omega) (Ev.neg (by omega) (Ev.neg (by omega) ?_)))
  rw [decide_eq_false (by omega)]
  refine Ev.succ ?_
  simp only [field_Right.j2]
  refine Ev.neg (by simp) (Ev.pos (by omega) (Ev.pos (by omega) ?_))
  obtain ⟨e, hlt⟩ := key_at hk hs'.1 hs'.2.1
  rw [e]
  refine Ev.bind (ev_Tag _ hlt c) ?_
  unfold rightB
  rw [hs, Bool.true_and]
  by_cases ht : c.f6 = (tagN (keyAt keys c.f0) c : Int)
  ·rw [if_pos (beq_iff_eq.2 ht)]
   exact Ev.pos ht (Ev.now _)
  ·rw [if_neg (fun e => ht (beq_iff_eq.1 e))]
   exact Ev.neg ht (Ev.now _)
 ·have hr : rightB keys c = false := by unfold rightB; rw [Bool.not_eq_true] at hs; rw [hs]; rfl
  rw [hr, if_neg (by simp)]
  rw [shapeB_iff] at hs
  by_cases h0 : c.f0 < 0
  ·exact Ev.pos h0 j0t
  refine Ev.neg h0 ?_
  by_cases h1 : c.f0 ≥ (keys.length : Int)
  ·rw [decide_eq_true h1]; exact j0t
  rw [decide_eq_false h1]
  refine Ev.succ ?_
  simp only [field_Right.j0]
  refine Ev.neg (by simp) ?_
  by_cases h2 : c.f1 < 1
  ·exact Ev.pos h2 j1t
  refine Ev.neg h2 ?_
  by_cases h3 : c.f1 > 1073741824
  ·rw [decide_eq_true h3]; exact j1t
  rw [decide_eq_false h3]
  refine Ev.succ ?_
  simp only [field_Right.j1]
  refine Ev.neg (by simp) ?_
  by_cases h4 : c.f5 < 0
  ·exact Ev.pos h4 j2t
  refine Ev.neg h4 ?_
  by_cases h5 : c.f4 < c.f5
  ·exact Ev.pos h5 j2t
  refine Ev.neg h5 ?_
  by_cases h6 : c.f3 < c.f4
  ·exact Ev.pos h6 j2t
  refine Ev.neg h6 ?_
  by_cases h7 : c.f3 > 1099511627776
  ·rw [decide_eq_true h7]; exact j2t
  exact absurd ⟨by omega, by omega, by omega, by omega, by omega, by omega, by omega, by omega⟩ hs
/-- Of all elements of a list at one number of rounds. -/
theorem ev_all {α β : Type} (l : List α) (g : α → Nat → Option β) (f : α → β) (h : ∀ x ∈ l, Ev (g x) (f x)) : ∃ K, ∀ k, K ≤ k → ∀ x ∈ l, g x k = some (f x) := by
 induction l with
 | nil => exact ⟨0, by simp⟩
 | cons a l ih =>
  obtain ⟨K, hK⟩ := ih (fun x hx => h x (by simp [hx]))
  obtain ⟨J, hJ⟩ := h a (by simp)
  refine ⟨max K J, fun k hk x hx => ?_⟩
  rcases List.mem_cons.1 hx with rfl | hx
  ·exact hJ k (by omega)
  ·exact hK k (by omega) x hx
/-- The evidence. -/
def accB (keys : List Int) (p : Int) (c : S28) : Bool := c.f2 == p && rightB keys c
def evid (keys : List Int) (l : List S28) (p : Int) : Int × Int × Int × Int × Int × Int := gathR (l.filter (accB keys p)) p
theorem ev_Gather {keys : List Int} (hk : KeysOk keys) (l : List S28) (p : Int) (h1 : keys.length ≤ 1000000) (h2 : l.length ≤ 1000) : Ev (fun k => field_Gather.f k keys l p) (evid keys l p) := by
 obtain ⟨K, hK⟩ := ev_all l (fun c k => okR k keys c) _ (fun c _ => ev_Right hk c)
 refine ⟨K, fun k hk' => ?_⟩
 show field_Gather.f k keys l p = _
 unfold field_Gather.f evid
 rw [if_pos ⟨h1, h2, by
  rw [List.all_eq_true]
  intro c hc
  rw [hK k hk' c hc]
  simp⟩]
 congr 2
 refine List.filter_congr fun c hc => ?_
 unfold accR accB
 rw [hK k hk' c hc]
 cases rightB keys c <;> simp
end Go.Proofs.Ytfdoncgljohndaa.R
namespace Go.Proofs.Ytfdoncgljohndaa.R
open Go.RowKit Go.Fld Go.Proofs.Ytfdoncgljohndaa.P Go.Proofs.YtfdoncgljohndaaW.PrintWords Go.Proofs.YtfdoncgljohndaaW.PrintLast Go.Proofs.YtfdoncgljohndaaW.PrintMore
theorem wf_u8 {n : Int} (h : (Lit.int .u8 n).wf = true) : 0 ≤ n ∧ n ≤ 255 := by
 simp only [Lit.wf, IntKind.min, IntKind.max, IntKind.signed, IntKind.bits, Bool.and_eq_true] at h
 simpa using h
theorem wf_i64 {n : Int} (h : (Lit.int .i64 n).wf = true) : -9223372036854775808 ≤ n ∧ n ≤ 9223372036854775807 := by
 simp only [Lit.wf, IntKind.min, IntKind.max, IntKind.signed, IntKind.bits, Bool.and_eq_true] at h
 simpa using h
def keyN (i : Nat) : Int := (wordsN [(i : Int), 77] : Int)
def keysFrom : Nat → Nat → List Int
 | _, 0 => []
 | i, d + 1 => keyN i :: keysFrom (i + 1) d
def keysN (n : Nat) : List Int := keysFrom 0 n
theorem keysFrom_length : ∀ d i, (keysFrom i d).length = d
 | 0, _ => rfl
 | d + 1, i => by simp [keysFrom, keysFrom_length d]
theorem keysN_length (n : Nat) : (keysN n).length = n := keysFrom_length n 0
theorem keysFrom_ok : ∀ d i, KeysOk (keysFrom i d)
 | 0, _ => fun x hx => by simp [keysFrom] at hx
 | d + 1, i => fun x hx => by
  rcases List.mem_cons.1 hx with rfl | hx
  ·have := wordsN_lt [(i : Int), 77]; unfold keyN; omega
  ·exact keysFrom_ok d (i + 1) x hx
theorem keysN_ok (n : Nat) : KeysOk (keysN n) := keysFrom_ok n 0
theorem keys_l0 : ∀ (d i : Nat) (acc : List Int), acc.length + d < 1000 → i + d < 1000 → Ev (fun k => paroleref32_Keys.l0 k ((i + d : Nat) : Int) acc (i : Int)) (acc ++ keysFrom i d)
 | 0, i, acc, h, h2 => by
  refine Ev.succ ?_
  simp only [paroleref32_Keys.l0, keysFrom, List.append_nil]
  exact Ev.neg (by omega) (Ev.now _)
 | d + 1, i, acc, h, h2 => by
  refine Ev.succ ?_
  simp only [paroleref32_Keys.l0, keysFrom]
  have hw : wrap64 ((i : Int) + 1) = ((i + 1 : Nat) : Int) := by rw [wrap64_of (by omega) (by omega)]; omega
  refine Ev.pos (by omega) (Ev.bind (ev_RWords [(i : Int), 77] (by simp)) (Ev.pos (by omega) ?_))
  rw [hw]
  have := keys_l0 d (i + 1) (acc ++ [keyN i]) (by simp; omega) (by omega)
  rw [show i + 1 + d = i + (d + 1) by omega] at this
  simpa [keyN] using this
theorem ev_Keys (n : Nat) (hn : n < 1000) : Ev (fun k => paroleref32_Keys.f k (n : Int)) (keysN n) := by
 have := keys_l0 n 0 [] (by simpa using hn) (by omega)
 simpa [paroleref32_Keys.f, keysN] using this
def rawOk (x : S58) : Prop := (0 ≤ x.f0.f0 ∧ x.f0.f0 ≤ 255) ∧ (0 ≤ x.f0.f1 ∧ x.f0.f1 ≤ 255) ∧ (0 ≤ x.f0.f2 ∧ x.f0.f2 ≤ 255) ∧ (0 ≤ x.f0.f3 ∧ x.f0.f3 ≤ 255) ∧ (0 ≤ x.f0.f4 ∧ x.f0.f4 ≤ 255) ∧ (0 ≤ x.f0.f5 ∧ x.f0.f5 ≤ 255)
def bareR (n : Int) (x : S58) : S28 := ⟨x.f0.f0 % n, 1 + x.f0.f1 % 12, 1 + x.f0.f2 % 3, x.f0.f3 / 200 + x.f0.f4 % 50 + x.f0.f5, x.f0.f3 / 200 + x.f0.f4 % 50, x.f0.f3 / 200, 0⟩
def madeR (keys : List Int) (x : S58) : S28 := signN (keyAt keys (x.f0.f0 % keys.length)) (bareR keys.length x)
theorem ev_MadeR {keys : List Int} (hk : KeysOk keys) (h0 : 0 < keys.length) (hl : keys.length < 1000) (x : S58) (hx : rawOk x) :
  Ev (fun k => paroleref32_Made.f k keys x.f0.f0 x.f0.f1 x.f0.f2 x.f0.f3 x.f0.f4 x.f0.f5) (tup (madeR keys x)) := by
 unfold rawOk at hx
 have t1 : Int.tmod x.f0.f0 (keys.length : Int) = x.f0.f0 % (keys.length : Int) := Int.tmod_eq_emod_of_nonneg hx.1.1
 have hp : (0 : Int) < keys.length := by omega
 have m0 := Int.emod_nonneg x.f0.f0 (b := (keys.length : Int)) (by omega)
 have m1 := Int.emod_lt_of_pos x.f0.f0 hp
 unfold paroleref32_Made.f
 rw [wrap64_of (n := x.f0.f0) (by omega) (by omega), t1]
 refine Ev.neg (by omega) (Ev.pos m0 (Ev.pos m1 ?_))
 obtain ⟨e, hlt⟩ := key_at hk m0 m1
 rw [e]
 have a1 : wrap64 (1 + wrap64 (Int.tmod x.f0.f1 12)) = 1 + x.f0.f1 % 12 := by
  rw [Int.tmod_eq_emod_of_nonneg hx.2.1.1, wrap64_of (n := x.f0.f1 % 12) (by omega) (by omega), wrap64_of (by omega) (by omega)]
 have a2 : wrap64 (1 + wrap64 (Int.tmod x.f0.f2 3)) = 1 + x.f0.f2 % 3 := by
  rw [Int.tmod_eq_emod_of_nonneg hx.2.2.1.1, wrap64_of (n := x.f0.f2 % 3) (by omega) (by omega), wrap64_of (by omega) (by omega)]
 have a3 : wrap64 (Int.tdiv (wrap64 x.f0.f3) 200) = x.f0.f3 / 200 := by
  rw [wrap64_of (n := x.f0.f3) (by omega) (by omega), Int.tdiv_eq_ediv_of_nonneg hx.2.2.2.1.1, wrap64_of (by omega) (by omega)]
 have a4 : wrap64 (x.f0.f3 / 200 + wrap64 (Int.tmod x.f0.f4 50)) = x.f0.f3 / 200 + x.f0.f4 % 50 := by
  rw [Int.tmod_eq_emod_of_nonneg hx.2.2.2.2.1.1, wrap64_of (n := x.f0.f4 % 50) (by omega) (by omega), wrap64_of (by omega) (by omega)]
 have a5 : wrap64 (x.f0.f3 / 200 + x.f0.f4 % 50 + wrap64 x.f0.f5) = x.f0.f3 / 200 + x.f0.f4 % 50 + x.f0.f5 := by
  rw [wrap64_of (n := x.f0.f5) (by omega) (by omega), wrap64_of (by omega) (by omega)]
 rw [a1, a2, a3, a4, a5]
 exact Ev.bind (ev_RSign _ hlt (bareR keys.length x)) (Ev.now _)
theorem right_sign {keys : List Int} {c : S28} (h : shapeB keys.length c = true) : rightB keys (signN (keyAt keys c.f0) c) = true := by
 unfold rightB
 rw [show shapeB keys.length (signN (keyAt keys c.f0) c) = shapeB keys.length c from rfl, h]
 simp only [Bool.true_and, beq_iff_eq]
 rfl
theorem bare_shape (n : Nat) (h0 : 0 < n) (x : S58) (hx : rawOk x) : shapeB n (bareR n x) = true := by
 unfold rawOk at hx
 have hp : (0 : Int) < n := by omega
 have m0 := Int.emod_nonneg x.f0.f0 (b := (n : Int)) (by omega)
 have m1 := Int.emod_lt_of_pos x.f0.f0 hp
 rw [shapeB_iff]
 unfold bareR
 simp only
 omega
theorem made_right {keys : List Int} (h0 : 0 < keys.length) (x : S58) (hx : rawOk x) : rightB keys (madeR keys x) = true := right_sign (bare_shape _ h0 x hx)
theorem mk28 (c : S28) : (⟨(tup c).1, (tup c).2.1, (tup c).2.2.1, (tup c).2.2.2.1, (tup c).2.2.2.2.1, (tup c).2.2.2.2.2.1, (tup c).2.2.2.2.2.2⟩ : S28) = c := rfl
theorem list_l0 {keys : List Int} (hk : KeysOk keys) (h0 : 0 < keys.length) (hl : keys.length < 1000) (l : List S58) (hx : ∀ x ∈ l, rawOk x) : ∀ (d i : Nat) (acc : List S28), i + d = 20 → acc.length ≤ i →
  Ev (fun k => paroleref32_List.l0 k keys l 20 acc (i : Int)) (acc ++ ((l.drop i).take d).map (madeR keys)) := by
 intro d
 induction d with
 | zero =>
  intro i acc hi ha
  refine Ev.succ ?_
  simp only [paroleref32_List.l0, List.take_zero, List.map_nil, List.append_nil]
  by_cases h : (i : Int) < (l.length : Int)
  ·exact Ev.pos h (Ev.neg (by omega) (Ev.now _))
  ·exact Ev.neg h (Ev.now _)
 | succ d ih =>
  intro i acc hi ha
  refine Ev.succ ?_
  simp only [paroleref32_List.l0]
  by_cases h : i < l.length
  ·refine Ev.pos (by omega) (Ev.pos (by omega) (Ev.pos (by omega) ?_))
   have er : rd_T58 l (i : Int) = l[i] := by unfold rd_T58; simp [h]
   have hw : wrap64 ((i : Int) + 1) = ((i + 1 : Nat) : Int) := by rw [wrap64_of (by omega) (by omega)]; omega
   rw [er, hw, List.drop_eq_getElem_cons h]
   refine Ev.bind (ev_MadeR hk h0 hl l[i] (hx _ (List.getElem_mem h))) (Ev.pos (by omega) ?_)
   rw [mk28]
   have := ih (i + 1) (acc ++ [madeR keys l[i]]) (by omega) (by simp; omega)
   rw [List.append_assoc] at this
   exact this
  ·rw [List.drop_eq_nil_of_le (by omega)]
   simp only [List.take_nil, List.map_nil, List.append_nil]
   exact Ev.neg (by omega) (Ev.now _)
def listR (keys : List Int) (l : List S58) : List S28 := (l.take 20).map (madeR keys)
theorem ev_ListR {keys : List Int} (hk : KeysOk keys) (h0 : 0 < keys.length) (hl : keys.length < 1000) (l : List S58) (hx : ∀ x ∈ l, rawOk x) : Ev (fun k => paroleref32_List.f k keys l 20) (listR keys l) := by
 have := list_l0 hk h0 hl l hx 20 0 [] rfl (by simp)
 simpa [paroleref32_List.f, listR] using this
theorem listR_length (keys : List Int) (l : List S58) : (listR keys l).length ≤ 20 := by unfold listR; simp; omega
theorem listR_right {keys : List Int} (h0 : 0 < keys.length) {l : List S58} (hx : ∀ x ∈ l, rawOk x) {c : S28} (hc : c ∈ listR keys l) : rightB keys c = true := by
 unfold listR at hc
 obtain ⟨x, hm, rfl⟩ := List.mem_map.1 hc
 exact made_right h0 x (hx x (List.mem_of_mem_take hm))
/-- What 'made' of the laws gives. -/
theorem ev_lmade (a b : Int) (ha : 0 ≤ a ∧ a ≤ 255) (hb : 0 ≤ b ∧ b ≤ 255) (l : List S58) (hx : ∀ x ∈ l, rawOk x) : ∃ n : Nat, 0 < n ∧ n ≤ 4 ∧ Ev (fun k => parolelaw32_made.f k a l b) (keysN n, listR (keysN n) l, 1 + b % 3) := by
 refine ⟨(1 + a % 4).toNat, by omega, by omega, ?_⟩
 unfold parolelaw32_made.f
 have e1 : wrap64 (1 + wrap64 (Int.tmod a 4)) = (((1 + a % 4).toNat : Nat) : Int) := by
  rw [Int.tmod_eq_emod_of_nonneg ha.1, wrap64_of (n := a % 4) (by omega) (by omega), wrap64_of (by omega) (by omega)]; omega
 have e2 : wrap64 (1 + wrap64 (Int.tmod b 3)) = 1 + b % 3 := by
  rw [Int.tmod_eq_emod_of_nonneg hb.1, wrap64_of (n := b % 3) (by omega) (by omega), wrap64_of (by omega) (by omega)]
 rw [e1, e2]
 have hn : 0 < (keysN (1 + a % 4).toNat).length := by rw [keysN_length]; omega
 exact Ev.bind (ev_Keys _ (by omega)) (Ev.bind (ev_ListR (keysN_ok _) hn (by rw [keysN_length]; omega) l hx) (Ev.now _))
theorem mem_macs (L : List S28) (x : Int) : x ∈ macs L ↔ ∃ c ∈ L, c.f0 = x := by
 unfold macs
 rw [mem_nub, List.mem_map]
theorem ofM_congr {L L' : List S28} (h : ∀ c, c ∈ L ↔ c ∈ L') (x : Int) (c : S28) : c ∈ ofM L x ↔ c ∈ ofM L' x := by unfold ofM; rw [List.mem_filter, List.mem_filter, h]
theorem map_congr_mem {L L' : List S28} (h : ∀ c, c ∈ L ↔ c ∈ L') (f : S28 → Int) (y : Int) : y ∈ L.map f ↔ y ∈ L'.map f := by
 simp only [List.mem_map]
 constructor
 ·rintro ⟨c, hc, rfl⟩; exact ⟨c, (h c).1 hc, rfl⟩
 ·rintro ⟨c, hc, rfl⟩; exact ⟨c, (h c).2 hc, rfl⟩
theorem sm_congr_mem {l l' : List Int} (hl : l.Nodup) (hl' : l'.Nodup) (h : ∀ x, x ∈ l ↔ x ∈ l') {f g : Int → Int} (hfg : ∀ x, f x = g x) : sm l f = sm l' g := by
 rw [sm_within l l' f hl hl' (fun x hx => (h x).1 hx) (fun x hx hn => absurd ((h x).2 hx) hn)]
 exact sm_congr fun x _ => hfg x
theorem gathR_congr {L L' : List S28} (h : ∀ c, c ∈ L ↔ c ∈ L') (p : Int) : gathR L p = gathR L' p := by
 have hm : ∀ x, x ∈ macs L ↔ x ∈ macs L' := fun x => by
  rw [mem_macs, mem_macs]
  constructor
  ·rintro ⟨c, hc, e⟩; exact ⟨c, (h c).1 hc, e⟩
  ·rintro ⟨c, hc, e⟩; exact ⟨c, (h c).2 hc, e⟩
 have hn : (macs L).length = (macs L').length := Nat.le_antisymm (nodup_length_le _ _ (nodup_nub _) fun x hx => (hm x).1 hx) (nodup_length_le _ _ (nodup_nub _) fun x hx => (hm x).2 hx)
 have e1 : ∀ x, seenM L x = seenM L' x := fun x => maxs_congr (map_congr_mem (ofM_congr h x) _)
 have e2 : ∀ x, lookM L x = lookM L' x := fun x => maxs_congr (map_congr_mem (ofM_congr h x) _)
 have e3 : ∀ x, brokM L x = brokM L' x := fun x => maxs_congr (map_congr_mem (ofM_congr h x) _)
 have e4 : ∀ x, missM L x = missM L' x := fun x => by
  unfold missM
  rw [show lastM L x = lastM L' x from maxs_congr (map_congr_mem (ofM_congr h x) _), show (nub (seqsM L x)).length = (nub (seqsM L' x)).length from nub_length_congr (map_congr_mem (ofM_congr h x) _)]
 unfold gathR
 have n1 : (macs L).Nodup := nodup_nub _
 have n2 : (macs L').Nodup := nodup_nub _
 rw [hn, sm_congr_mem n1 n2 hm e1, sm_congr_mem n1 n2 hm e2, sm_congr_mem n1 n2 hm e3, sm_congr_mem n1 n2 hm e4]
theorem evid_congr {keys keys' : List Int} {l l' : List S28} {p : Int} (h : ∀ c, (c ∈ l ∧ accB keys p c = true) ↔ (c ∈ l' ∧ accB keys' p c = true)) : evid keys l p = evid keys' l' p := by
 unfold evid
 exact gathR_congr (fun c => by rw [List.mem_filter, List.mem_filter, h]) p
/-- Of lists of which one is in the other. -/
theorem sm_subset {l l' : List Int} (hl : l.Nodup) (hl' : l'.Nodup) (h : ∀ x ∈ l, x ∈ l') {f g : Int → Int} (hfg : ∀ x, f x ≤ g x) (h0 : ∀ x, 0 ≤ g x) : sm l f ≤ sm l' g := by
 have e := sm_within l l' (fun x => if x ∈ l then g x else 0) hl hl' h (fun x _ hn => by simp [hn])
 have e1 : sm l g = sm l (fun x => if x ∈ l then g x else 0) := sm_congr fun x hx => by simp [hx]
 have h1 : sm l f ≤ sm l g := sm_le fun x _ => hfg x
 have h2 : sm l' (fun x => if x ∈ l then g x else 0) ≤ sm l' g := sm_le fun x _ => by
  split
  ·exact Int.le_refl _
  ·exact h0 x
 omega
theorem ofM_sub {L L' : List S28} (h : ∀ c ∈ L, c ∈ L') (x : Int) (f : S28 → Int) : ∀ y ∈ (ofM L x).map f, y ∈ (ofM L' x).map f := fun y hy => by
 obtain ⟨c, hc, rfl⟩ := List.mem_map.1 hy
 unfold ofM at hc
 rw [List.mem_filter] at hc
 exact List.mem_map.2 ⟨c, List.mem_filter.2 ⟨h c hc.1, hc.2⟩, rfl⟩
theorem gath_mono {L L' : List S28} (h : ∀ c ∈ L, c ∈ L') (p : Int) : (gathR L p).2.1 ≤ (gathR L' p).2.1 ∧ (gathR L p).2.2.1 ≤ (gathR L' p).2.2.1 ∧ (gathR L p).2.2.2.1 ≤ (gathR L' p).2.2.2.1 ∧ (gathR L p).2.2.2.2.1 ≤ (gathR L' p).2.2.2.2.1 := by
 have hm : ∀ x ∈ macs L, x ∈ macs L' := fun x hx => by
  rw [mem_macs] at hx ⊢
  obtain ⟨c, hc, e⟩ := hx
  exact ⟨c, h c hc, e⟩
 unfold gathR
 simp only
 refine ⟨?_, sm_subset (nodup_nub _) (nodup_nub _) hm (fun x => maxs_mono (ofM_sub h x _)) (fun x => maxs_nonneg _), sm_subset (nodup_nub _) (nodup_nub _) hm (fun x => maxs_mono (ofM_sub h x _)) (fun x => maxs_nonneg _), sm_subset (nodup_nub _) (nodup_nub _) hm (fun x => maxs_mono (ofM_sub h x _)) (fun x => maxs_nonneg _)⟩
 have := nodup_length_le _ _ (nodup_nub _) hm
 exact_mod_cast this
theorem macs_one {L L' : List S28} (c : S28) (h : ∀ d ∈ L', d ∈ L ∨ d = c) (p : Int) : (gathR L' p).2.1 ≤ (gathR L p).2.1 + 1 := by
 have := nodup_length_le (macs L') (c.f0 :: macs L) (nodup_nub _) (fun x hx => by
  rw [mem_macs] at hx
  obtain ⟨d, hd, e⟩ := hx
  rcases h d hd with h1 | rfl
  ·exact List.mem_cons_of_mem _ ((mem_macs L x).2 ⟨d, h1, e⟩)
  ·rw [e]; exact List.mem_cons_self)
 unfold gathR
 simp only [List.length_cons] at this ⊢
 omega
end Go.Proofs.Ytfdoncgljohndaa.R
namespace Go.Proofs.Ytfdoncgljohndaa.Pure
open Go.RowKit Go.Fld Go.Proofs.Ytfdoncgljohndaa.P Go.Proofs.Ytfdoncgljohndaa.R Go.Proofs.YtfdoncgljohndaaW.PrintWords Go.Proofs.YtfdoncgljohndaaW.PrintLast Go.Proofs.YtfdoncgljohndaaW.PrintMore
theorem rd_append (keys : List Int) (y : Int) (i : Int) (h0 : 0 ≤ i) (h1 : i < keys.length) : rd (keys ++ [y]) i = rd keys i := by
 unfold rd
 simp [List.getElem?_append_left (show i.toNat < keys.length by omega)]
theorem acc_more {keys : List Int} {y p : Int} {c : S28} (h : rightB keys c = true) : accB (keys ++ [y]) p c = accB keys p c := by
 have hs := h
 unfold rightB at hs
 rw [Bool.and_eq_true] at hs
 have hs' := shapeB_iff.1 hs.1
 have e : rightB (keys ++ [y]) c = true := by
  unfold rightB
  rw [Bool.and_eq_true]
  refine ⟨shapeB_iff.2 ?_, ?_⟩
  ·rw [List.length_append, List.length_singleton]; omega
  ·unfold keyAt
   rw [rd_append keys y c.f0 hs'.1 hs'.2.1]
   exact hs.2
 unfold accB
 rw [h, e]
theorem FieldMore : parolelaw32_FieldMore.Pure := by
 intro a0_0 l0_1 a0_2 a1_0 a1_1 a1_2 a1_3 a1_4 a1_5 h0 h1
 have hx : ∀ x ∈ l0_1, rawOk x := fun x hx => by
  have := h0.2.1.2 x hx
  exact ⟨wf_u8 this.1, wf_u8 this.2.1, wf_u8 this.2.2.1, wf_u8 this.2.2.2.1, wf_u8 this.2.2.2.2.1, wf_u8 this.2.2.2.2.2⟩
 have hr : rawOk ⟨⟨a1_0, a1_1, a1_2, a1_3, a1_4, a1_5⟩⟩ := ⟨wf_u8 h1.1, wf_u8 h1.2.1, wf_u8 h1.2.2.1, wf_u8 h1.2.2.2.1, wf_u8 h1.2.2.2.2.1, wf_u8 h1.2.2.2.2.2⟩
 obtain ⟨n, hn0, hn4, hm⟩ := ev_lmade a0_0 a0_2 (wf_u8 h0.1) (wf_u8 h0.2.2) l0_1 hx
 refine Ev.rounds (g := fun k => parolelaw32_FieldMore.f k a0_0 l0_1 a0_2 a1_0 a1_1 a1_2 a1_3 a1_4 a1_5) ?_
 unfold parolelaw32_FieldMore.f
 have hk := keysN_ok n
 have hkl := keysN_length n
 have hl := listR_length (keysN n) l0_1
 have hright : ∀ c ∈ listR (keysN n) l0_1, rightB (keysN n) c = true := fun c hc => listR_right (by omega) hx hc
 refine Ev.cbind (a := true) rfl (Ev.pos rfl (Ev.bind hm ?_))
 dsimp only
 generalize keysN n = keys at *
 generalize listR keys l0_1 = l at *
 generalize 1 + a0_2 % 3 = p at *
 have hk3 : KeysOk (keys ++ [3]) := fun x hx => by
  rcases List.mem_append.1 hx with hx | hx
  ·exact hk x hx
  ·rw [List.mem_singleton.1 hx]; omega
 refine Ev.bind (ev_Gather hk l p (by omega) (by omega)) (Ev.cbind rfl (Ev.pos (by simp only [List.length_nil]; omega) (Ev.cbind rfl (Ev.bind (ev_MadeR hk (by omega) (by omega) _ hr) (Ev.cbind rfl (Ev.pos (by simp; omega) ?_))))))
 rw [mk28]
 simp only [List.nil_append]
 refine Ev.bind (ev_Gather hk _ p (by omega) (by simp; omega)) (Ev.cbind rfl (Ev.pos (by simp only [List.length_nil]; omega) (Ev.cbind rfl (Ev.cbind rfl (Ev.pos (by simp; omega) ?_)))))
 refine Ev.bind (ev_Gather hk3 l p (by simp; omega) (by omega)) ?_
 have he : evid (keys ++ [3]) l p = evid keys l p := evid_congr fun c => by
  constructor
  ·rintro ⟨hc, ha⟩; exact ⟨hc, (acc_more (hright c hc)).symm.trans ha⟩
  ·rintro ⟨hc, ha⟩; exact ⟨hc, (acc_more (hright c hc)).trans ha⟩
 rw [he]
 obtain ⟨m1, m2, m3, m4⟩ := gath_mono (L := l.filter (accB keys p)) (L' := (l ++ [madeR keys ⟨⟨a1_0, a1_1, a1_2, a1_3, a1_4, a1_5⟩⟩]).filter (accB keys p)) (fun c hc => by
  rw [List.mem_filter] at hc ⊢
  exact ⟨List.mem_append_left _ hc.1, hc.2⟩) p
 have m5 := macs_one (L := l.filter (accB keys p)) (L' := (l ++ [madeR keys ⟨⟨a1_0, a1_1, a1_2, a1_3, a1_4, a1_5⟩⟩]).filter (accB keys p)) (madeR keys ⟨⟨a1_0, a1_1, a1_2, a1_3, a1_4, a1_5⟩⟩) (fun d hd => by
  rw [List.mem_filter] at hd
  rcases List.mem_append.1 hd.1 with h | h
  ·exact .inl (List.mem_filter.2 ⟨h, hd.2⟩)
  ·exact .inr (List.mem_singleton.1 h)) p
 have m6 : 0 ≤ (gathR (l.filter (accB keys p)) p).2.1 ∧ (gathR (l.filter (accB keys p)) p).2.1 ≤ 1000 := by
  have h1 : (macs (l.filter (accB keys p))).length ≤ 20 := Nat.le_trans (length_nub_le _) (by rw [List.length_map]; exact Nat.le_trans (List.length_filter_le _ _) hl)
  unfold gathR
  simp only
  omega
 refine Ev.pos m4 (Ev.pos m3 (Ev.pos m2 (Ev.pos m1 (Ev.pos ?_ ?_))))
 ·have : wrap64 ((evid keys l p).2.1 + 1) = (evid keys l p).2.1 + 1 := wrap64_of (by unfold evid; omega) (by unfold evid; omega)
  rw [this]
  exact m5
 ·simp only [beq_self_eq_true, Bool.and_self]
  exact Ev.now _
end Go.Proofs.Ytfdoncgljohndaa.Pure

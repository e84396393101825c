/- A part of the claim FieldBounds: lemmas, printed functions with their contracts, plain laws. -/
import Derived.Test.YtfdoncgljohndaacFieldBounds4
import Derived.Laws.Externs
set_option linter.unusedVariables false
set_option linter.unusedSimpArgs false
namespace Go.Proofs.Ytfdoncgljohndaa.P
open Go.Proofs.YtfdoncgljohndaaH Go.RowKit Go.Proofs.YtfdoncgljohndaaW.PrintWords Go.Proofs.YtfdoncgljohndaaW.PrintLast Go.Proofs.YtfdoncgljohndaaW.PrintMore
attribute [local go_sem] max2_int min2_int max_two min_two max_three min_three max_four min_four   -- for this text's walks alone
def bits_Mul64.f (a0 : Int) (a1 : Int) : Option (Int × Int) := some (IntKind.u64.wrap ((IntKind.u64.wrap ((IntKind.u64.wrap ((a0 / 4294967296) * (a1 / 4294967296))) + ((IntKind.u64.wrap ((IntKind.u64.wrap ((a0 / 4294967296) * (Go.bits .and .u64 a1 4294967295))) + ((IntKind.u64.wrap ((Go.bits .and .u64 a0 4294967295) * (Go.bits .and .u64 a1 4294967295))) / 4294967296))) / 4294967296))) + ((IntKind.u64.wrap ((Go.bits .and .u64 (IntKind.u64.wrap ((IntKind.u64.wrap ((a0 / 4294967296) * (Go.bits .and .u64 a1 4294967295))) + ((IntKind.u64.wrap ((Go.bits .and .u64 a0 4294967295) * (Go.bits .and .u64 a1 4294967295))) / 4294967296))) 4294967295) + (IntKind.u64.wrap ((Go.bits .and .u64 a0 4294967295) * (a1 / 4294967296))))) / 4294967296)), IntKind.u64.wrap (a0 * a1))
set_option maxHeartbeats 40000000 in
set_option maxRecDepth 100000 in
theorem bits_Mul64.calls (a0 : Int) (a1 : Int) (r1 : Int) (r2 : Int) (w : World) (h : bits_Mul64.f a0 a1 = some (r1, r2)) :
  Calls Try.prog 58 #[.int .u64 a0, .int .u64 a1] w fun e w' => e = .returned (.tuple #[.int .u64 r1, .int .u64 r2]) ∧ Drawn0 w w' := by
 have H : (some (IntKind.u64.wrap ((IntKind.u64.wrap ((IntKind.u64.wrap ((a0 / 4294967296) * (a1 / 4294967296))) + ((IntKind.u64.wrap ((IntKind.u64.wrap ((a0 / 4294967296) * (Go.bits .and .u64 a1 4294967295))) + ((IntKind.u64.wrap ((Go.bits .and .u64 a0 4294967295) * (Go.bits .and .u64 a1 4294967295))) / 4294967296))) / 4294967296))) + ((IntKind.u64.wrap ((Go.bits .and .u64 (IntKind.u64.wrap ((IntKind.u64.wrap ((a0 / 4294967296) * (Go.bits .and .u64 a1 4294967295))) + ((IntKind.u64.wrap ((Go.bits .and .u64 a0 4294967295) * (Go.bits .and .u64 a1 4294967295))) / 4294967296))) 4294967295) + (IntKind.u64.wrap ((Go.bits .and .u64 a0 4294967295) * (a1 / 4294967296))))) / 4294967296)), IntKind.u64.wrap (a0 * a1))) = some (r1, r2) := h
 clear h
 simp only [Option.some.injEq, Prod.mk.injEq] at H
 obtain ⟨rfl, rfl⟩ := H
 go_enter Try.func58, Try.ntmps58
 go_wp2
 go_ret2
 exact ⟨by first | rfl | (simp; done) | (simp [*]; done), by repeat (first | exact Drawn0.refl _ | apply Drawn0.step)⟩
end Go.Proofs.Ytfdoncgljohndaa.P
namespace Go.Proofs.Ytfdoncgljohndaa.P
open Go.Proofs.YtfdoncgljohndaaH Go.RowKit Go.Proofs.YtfdoncgljohndaaW.PrintWords Go.Proofs.YtfdoncgljohndaaW.PrintLast Go.Proofs.YtfdoncgljohndaaW.PrintMore
attribute [local go_sem] max2_int min2_int max_two min_two max_three min_three max_four min_four   -- for this text's walks alone
attribute [local go_sem] Go.Proofs.YtfdoncgljohndaaH.cell_set_map
def rat_times.f (a0 : Int) (a1 : Int) : Option (Bool × Int × Int) := (rat_abs.f a0).bind fun t102 => ((rat_abs.f a1).bind fun t103 => ((bits_Mul64.f t102 t103).bind fun bt104 => (some (((decide (a0 < 0)) != (decide (a1 < 0))), bt104.1, bt104.2))))
set_option maxHeartbeats 40000000 in
set_option maxRecDepth 100000 in
theorem rat_times.calls (a0 : Int) (a1 : Int) (r1 : Bool) (r2 : Int) (r3 : Int) (w : World) (h : rat_times.f a0 a1 = some (r1, r2, r3)) :
  Calls Try.prog 40 #[.int .i64 a0, .int .i64 a1] w fun e w' => e = .returned (.agg #[.bool r1, .int .u64 r2, .int .u64 r3]) ∧ Below w.heap.size w w' := by
 have hu100 := Try.underlying100; have HB := aM (Below.refl w.heap.size w)
 have H : ((rat_abs.f a0).bind fun t102 => ((rat_abs.f a1).bind fun t103 => ((bits_Mul64.f t102 t103).bind fun bt104 => (some (((decide (a0 < 0)) != (decide (a1 < 0))), bt104.1, bt104.2))))) = some (r1, r2, r3) := h
 clear h; replace H := Option.bind_eq_some_iff.mp H
 obtain ⟨t102, A30, H⟩ := H
 replace H : ((rat_abs.f a1).bind fun t103 => ((bits_Mul64.f t102 t103).bind fun bt104 => (some (((decide (a0 < 0)) != (decide (a1 < 0))), bt104.1, bt104.2)))) = some (r1, r2, r3) := H
 have A3 := aM A30; clear A30; replace H := Option.bind_eq_some_iff.mp H
 obtain ⟨t103, A40, H⟩ := H
 replace H : ((bits_Mul64.f t102 t103).bind fun bt104 => (some (((decide (a0 < 0)) != (decide (a1 < 0))), bt104.1, bt104.2))) = some (r1, r2, r3) := H
 have A4 := aM A40; clear A40; replace H := Option.bind_eq_some_iff.mp H
 obtain ⟨⟨t104, t105⟩, A50, H⟩ := H
 replace H : (some (((decide (a0 < 0)) != (decide (a1 < 0))), t104, t105)) = some (r1, r2, r3) := H
 have A5 := aM A50; clear A50
 simp only [Option.some.injEq, Prod.mk.injEq] at H
 obtain ⟨rfl, rfl, rfl⟩ := H
 go_enter Try.func40, Try.ntmps40
 go_wp2_with (first | ((with_reducible refine gate_dst (N := 4) rfl ?_); refine bE (N := 4) (cs := #[.bool false, .int .u64 0, .int .u64 0]) (t := 100) ?_; intro gb101 hg w6 hbox hb; have BK101 := aM (hbox); have GW101 := gE hg HB; have GE101 := gE hg HB; replace HB := sB HB hb; clear hb hbox hg) | ((with_reducible refine gate_callee (f := 59) rfl ?_); refine gL (some 9) Try.func59 #[.int .i64 a0] ?_; (with_reducible refine (rat_abs.calls a0 t102 _ A3.out).mono ?_); rintro e w' ⟨rfl, ⟨nd, rfl⟩⟩; refine ⟨_, rfl, ?_⟩; (try (rw [drewN_self w6]; generalize hq_ : World.drewN w6 _ = w6; have n0_ : Aside0 (w6.heap[gb101]? = some (.cells #[.bool false, .int .u64 0, .int .u64 0] 100 (0, 0))) := ⟨by rw [← hq_]; exact (bD BK101)⟩; have n1_ : Aside0 (Below w.heap.size w w6) := ⟨by rw [← hq_]; exact (sD HB)⟩; clear BK101 HB hq_; have BK101 := n0_; have HB := n1_; clear n0_ n1_))) | ((with_reducible refine gate_callee (f := 59) rfl ?_); refine gL (some 11) Try.func59 #[.int .i64 a1] ?_; (with_reducible refine (rat_abs.calls a1 t103 _ A4.out).mono ?_); rintro e w' ⟨rfl, ⟨nd, rfl⟩⟩; refine ⟨_, rfl, ?_⟩; (try (rw [drewN_self w6]; generalize hq_ : World.drewN w6 _ = w6; have n0_ : Aside0 (w6.heap[gb101]? = some (.cells #[.bool false, .int .u64 0, .int .u64 0] 100 (0, 0))) := ⟨by rw [← hq_]; exact (bD BK101)⟩; have n1_ : Aside0 (Below w.heap.size w w6) := ⟨by rw [← hq_]; exact (sD HB)⟩; clear BK101 HB hq_; have BK101 := n0_; have HB := n1_; clear n0_ n1_))) | ((with_reducible refine gate_callee (f := 58) rfl ?_); refine gL (some 12) Try.func58 #[.int .u64 t102, .int .u64 t103] ?_; (with_reducible refine (bits_Mul64.calls t102 t103 t104 t105 _ A5.out).mono ?_); rintro e w' ⟨rfl, ⟨nd, rfl⟩⟩; refine ⟨_, rfl, ?_⟩; (try (rw [drewN_self w6]; generalize hq_ : World.drewN w6 _ = w6; have n0_ : Aside0 (w6.heap[gb101]? = some (.cells #[.bool false, .int .u64 0, .int .u64 0] 100 (0, 0))) := ⟨by rw [← hq_]; exact (bD BK101)⟩; have n1_ : Aside0 (Below w.heap.size w w6) := ⟨by rw [← hq_]; exact (sD HB)⟩; clear BK101 HB hq_; have BK101 := n0_; have HB := n1_; clear n0_ n1_)); obtain ⟨hcz7_0, hcz7_1, hcz7_2, hfz7_0, hfz7_1, hfz7_2⟩ := cZ3 BK101))
 refine bodyPost_ret (results_cell_row rfl _ _ gb101 100 #[.bool ((decide (a0 < 0)) != (decide (a1 < 0))), .int .u64 t104, .int .u64 t105] (0, 0) _ rfl (by refine bM ?_; refine blk_put (cs := #[.bool ((decide (a0 < 0)) != (decide (a1 < 0))), .int .u64 t104, .int .u64 0]) ?_ 2 _ rfl; refine bM ?_; refine blk_put (cs := #[.bool ((decide (a0 < 0)) != (decide (a1 < 0))), .int .u64 0, .int .u64 0]) ?_ 1 _ rfl; refine bM ?_; refine blk_put (cs := #[.bool false, .int .u64 0, .int .u64 0]) ?_ 0 _ rfl; exact bD BK101) Try.underlying100 rfl (by kernel_rfl)) rfl ?_
 exact ⟨by first | rfl | (simp [errW_none, errW_some] <;> rfl) | (simp [*, errW_none, errW_some] <;> rfl), sD HB⟩
end Go.Proofs.Ytfdoncgljohndaa.P
namespace Go.Proofs.Ytfdoncgljohndaa.P
open Go.Proofs.YtfdoncgljohndaaH Go.RowKit Go.Proofs.YtfdoncgljohndaaW.PrintWords Go.Proofs.YtfdoncgljohndaaW.PrintLast Go.Proofs.YtfdoncgljohndaaW.PrintMore
attribute [local go_sem] max2_int min2_int max_two min_two max_three min_three max_four min_four   -- for this text's walks alone
def rat_wide_atLeast.f (a0_0 : Bool) (a0_1 : Int) (a0_2 : Int) (a1_0 : Bool) (a1_1 : Int) (a1_2 : Int) : Option (Bool) := if a0_1 > a1_1 then (some true) else (if a0_1 = a1_1 then (some (decide (a0_2 ≥ a1_2))) else (some false))
set_option maxHeartbeats 40000000 in
set_option maxRecDepth 100000 in
theorem rat_wide_atLeast.calls (a0_0 : Bool) (a0_1 : Int) (a0_2 : Int) (a1_0 : Bool) (a1_1 : Int) (a1_2 : Int) (r : Bool) (w : World) (h : rat_wide_atLeast.f a0_0 a0_1 a0_2 a1_0 a1_1 a1_2 = some r) :
  Calls Try.prog 61 #[.agg #[.bool a0_0, .int .u64 a0_1, .int .u64 a0_2], .agg #[.bool a1_0, .int .u64 a1_1, .int .u64 a1_2]] w fun e w' => e = .returned (.bool r) ∧ Below w.heap.size w w' := by
 have hu100 := Try.underlying100; have HB := aM (Below.refl w.heap.size w)
 have H : (if a0_1 > a1_1 then (some true) else (if a0_1 = a1_1 then (some (decide (a0_2 ≥ a1_2))) else (some false))) = some r := h
 clear h
 by_cases c3 : a0_1 > a1_1
 ·rw [if_pos c3] at H
  have c3b0 : decide (a1_1 < a0_1) = true := decide_eq_true c3
  clear c3
  obtain rfl := Option.some.inj H
  go_enter Try.func61, Try.ntmps61
  go_wp2_with (first | ((with_reducible refine gate_dst (N := 2) rfl ?_); refine bE (N := 2) (cs := #[.bool a0_0, .int .u64 a0_1, .int .u64 a0_2]) (t := 100) ?_; intro gb101 hg w4 hbox hb; have BK101 := aM (hbox); have GW101 := gE hg HB; have GE101 := gE hg HB; replace HB := sB HB hb; clear hb hbox hg) | ((with_reducible refine gate_dst (N := 3) rfl ?_); refine bE (N := 3) (cs := #[.bool a1_0, .int .u64 a1_1, .int .u64 a1_2]) (t := 100) ?_; intro gb102 hg w5 hbox hb; have BK102 := aM (hbox); have GW102 := gE hg HB; have GE102 := gE hg HB; have NB101_102 := nL hg BK101; replace BK101 := bB BK101 hb; replace HB := sB HB hb; clear hb hbox hg; have hnb6 := NB101_102.out; have hnc6 := NB101_102.out.symm; obtain ⟨hcz7_0, hcz7_1, hcz7_2, hfz7_0, hfz7_1, hfz7_2⟩ := cZ3 BK101; obtain ⟨hcz8_0, hcz8_1, hcz8_2, hfz8_0, hfz8_1, hfz8_2⟩ := cZ3 BK102))
  go_ret
  exact ⟨by first | rfl | (simp [errW_none, errW_some] <;> rfl) | (simp [*, errW_none, errW_some] <;> rfl), sD HB⟩
 rw [if_neg c3] at H
 have c3b0 : decide (a1_1 < a0_1) = false := decide_eq_false c3
 clear c3
 by_cases c9 : a0_1 = a1_1
 rotate_left
 ·rw [if_neg c9] at H
  have c9b0 : (a0_1 == a1_1) = false := beq_eq_false_iff_ne.mpr c9
  have c9b1 : (a0_1 != a1_1) = true := bne_iff_ne.mpr c9
  obtain rfl := Option.some.inj H
  go_enter Try.func61, Try.ntmps61
  go_wp2_with (first | ((with_reducible refine gate_dst (N := 2) rfl ?_); refine bE (N := 2) (cs := #[.bool a0_0, .int .u64 a0_1, .int .u64 a0_2]) (t := 100) ?_; intro gb101 hg w15 hbox hb; have BK101 := aM (hbox); have GW101 := gE hg HB; have GE101 := gE hg HB; replace HB := sB HB hb; clear hb hbox hg) | ((with_reducible refine gate_dst (N := 3) rfl ?_); refine bE (N := 3) (cs := #[.bool a1_0, .int .u64 a1_1, .int .u64 a1_2]) (t := 100) ?_; intro gb102 hg w16 hbox hb; have BK102 := aM (hbox); have GW102 := gE hg HB; have GE102 := gE hg HB; have NB101_102 := nL hg BK101; replace BK101 := bB BK101 hb; replace HB := sB HB hb; clear hb hbox hg; have hnb17 := NB101_102.out; have hnc17 := NB101_102.out.symm; obtain ⟨hcz18_0, hcz18_1, hcz18_2, hfz18_0, hfz18_1, hfz18_2⟩ := cZ3 BK101; obtain ⟨hcz19_0, hcz19_1, hcz19_2, hfz19_0, hfz19_1, hfz19_2⟩ := cZ3 BK102))
  go_ret
  exact ⟨by first | rfl | (simp [errW_none, errW_some] <;> rfl) | (simp [*, errW_none, errW_some] <;> rfl), sD HB⟩
 rw [if_pos c9] at H
 have c9b0 : (a0_1 == a1_1) = true := beq_iff_eq.mpr c9
 have c9b1 : (a0_1 != a1_1) = false := bne_eq_false_iff_eq.mpr c9
 clear c9
 obtain rfl := Option.some.inj H
 go_enter Try.func61, Try.ntmps61
 go_wp2_with (first | ((with_reducible refine gate_dst (N := 2) rfl ?_); refine bE (N := 2) (cs := #[.bool a0_0, .int .u64 a0_1, .int .u64 a0_2]) (t := 100) ?_; intro gb101 hg w10 hbox hb; have BK101 := aM (hbox); have GW101 := gE hg HB; have GE101 := gE hg HB; replace HB := sB HB hb; clear hb hbox hg) | ((with_reducible refine gate_dst (N := 3) rfl ?_); refine bE (N := 3) (cs := #[.bool a1_0, .int .u64 a1_1, .int .u64 a1_2]) (t := 100) ?_; intro gb102 hg w11 hbox hb; have BK102 := aM (hbox); have GW102 := gE hg HB; have GE102 := gE hg HB; have NB101_102 := nL hg BK101; replace BK101 := bB BK101 hb; replace HB := sB HB hb; clear hb hbox hg; have hnb12 := NB101_102.out; have hnc12 := NB101_102.out.symm; obtain ⟨hcz13_0, hcz13_1, hcz13_2, hfz13_0, hfz13_1, hfz13_2⟩ := cZ3 BK101; obtain ⟨hcz14_0, hcz14_1, hcz14_2, hfz14_0, hfz14_1, hfz14_2⟩ := cZ3 BK102))
 go_ret
 exact ⟨by first | rfl | (simp [errW_none, errW_some] <;> rfl) | (simp [*, errW_none, errW_some] <;> rfl), sD HB⟩
end Go.Proofs.Ytfdoncgljohndaa.P
namespace Go.Proofs.Ytfdoncgljohndaa.P
open Go.RowKit Go.Proofs.YtfdoncgljohndaaW.PrintWords
def bits_Add64.f (a0 : Int) (a1 : Int) (a2 : Int) : Option (Int × Int) := if 0 ≤ a0 ∧ 0 ≤ a1 ∧ 0 ≤ a2 ∧ a2 ≤ 1 then some ((a0 + a1 + a2) % 18446744073709551616, (a0 + a1 + a2) / 18446744073709551616) else none
theorem bits_Add64.run (a0 : Int) (a1 : Int) (a2 : Int) (r1 r2 : Int) (W : World) (h : bits_Add64.f a0 a1 a2 = some (r1, r2)) :
  (callFunc 60 #[.int .u64 a0, .int .u64 a1, .int .u64 a2]).run Try.prog W = .ok (.value (.tuple #[.int .u64 r1, .int .u64 r2])) W := by
 unfold bits_Add64.f at h
 split at h
 ·rename_i hc
  obtain ⟨h0, h1, h2, h3⟩ := hc
  simp only [Option.some.injEq, Prod.mk.injEq] at h
  obtain ⟨rfl, rfl⟩ := h
  rw [run_callFunc_extern Try.func60 (by kernel_rfl) (by kernel_rfl) (by kernel_rfl) (e := add64Entry) (by kernel_rfl), run_add64 a0 a1 a2 h0 h1 h2 h3]
  rfl
 ·cases h
/-- The model's entry for math/bits.Sub64. -/
def subEntry : Array Value → Sem Value := fun args => do
 let (x, y, b) ← Extern.MathBitsCarry.three "Sub64" args
 pure (Extern.MathBitsCarry.pair ((x + Extern.MathBitsCarry.m64 - y - b) % Extern.MathBitsCarry.m64) (if x < y + b then 1 else 0))
theorem run_subEntry {P : Program} (x y b : Nat) (hb : b ≤ 1) (w : World) :
  (subEntry #[.int .u64 x, .int .u64 y, .int .u64 b]).run P w =
   .ok (.tuple #[.int .u64 (((x + 18446744073709551616 - y - b) % 18446744073709551616 : Nat) : Int), .int .u64 ((if x < y + b then 1 else 0 : Nat) : Int)]) w := by
 have : b = 0 ∨ b = 1 := by omega
 rcases this with rfl | rfl <;> rfl
def bits_Sub64.f (a0 : Int) (a1 : Int) (a2 : Int) : Option (Int × Int) := if 0 ≤ a0 ∧ 0 ≤ a1 ∧ a1 ≤ 18446744073709551615 ∧ 0 ≤ a2 ∧ a2 ≤ 1 then some ((a0 - a1 - a2) % 18446744073709551616, if a0 < a1 + a2 then 1 else 0) else none
theorem bits_Sub64.run (a0 : Int) (a1 : Int) (a2 : Int) (r1 r2 : Int) (W : World) (h : bits_Sub64.f a0 a1 a2 = some (r1, r2)) :
  (callFunc 62 #[.int .u64 a0, .int .u64 a1, .int .u64 a2]).run Try.prog W = .ok (.value (.tuple #[.int .u64 r1, .int .u64 r2])) W := by
 unfold bits_Sub64.f at h
 split at h
 ·rename_i hc
  obtain ⟨h0, h1, h1', h2, h3⟩ := hc
  simp only [Option.some.injEq, Prod.mk.injEq] at h
  obtain ⟨rfl, rfl⟩ := h
  obtain ⟨x, rfl⟩ := Int.eq_ofNat_of_zero_le h0
  obtain ⟨y, rfl⟩ := Int.eq_ofNat_of_zero_le h1
  obtain ⟨b, rfl⟩ := Int.eq_ofNat_of_zero_le h2
  rw [run_callFunc_extern Try.func62 (by kernel_rfl) (by kernel_rfl) (by kernel_rfl) (e := subEntry) (by kernel_rfl), run_subEntry x y b (by omega)]
  have e1 : (((x + 18446744073709551616 - y - b) % 18446744073709551616 : Nat) : Int) = ((x : Int) - y - b) % 18446744073709551616 := by omega
  have e2 : ((if x < y + b then 1 else 0 : Nat) : Int) = if (x : Int) < (y : Int) + (b : Int) then 1 else 0 := by split <;> split <;> first | rfl | omega
  rw [e1, e2]
  rfl
 ·cases h
/-- Div64, where the upper half is 0. -/
def bits_Div64.f (a0 : Int) (a1 : Int) (a2 : Int) : Option (Int × Int) := if a0 = 0 ∧ 0 ≤ a1 ∧ a1 ≤ 18446744073709551615 ∧ 1 ≤ a2 ∧ a2 ≤ 18446744073709551615 then some (a1 / a2, a1 % a2) else none
set_option maxHeartbeats 2000000 in
theorem bits_Div64.calls (a0 : Int) (a1 : Int) (a2 : Int) (r1 : Int) (r2 : Int) (w : World) (h : bits_Div64.f a0 a1 a2 = some (r1, r2)) :
  Calls Try.prog 76 #[.int .u64 a0, .int .u64 a1, .int .u64 a2] w fun e w' => e = .returned (.tuple #[.int .u64 r1, .int .u64 r2]) ∧ Below w.heap.size w w' := by
 unfold bits_Div64.f at h
 split at h
 ·rename_i hc
  obtain ⟨rfl, h1, h2, h3, h4⟩ := hc
  simp only [Option.some.injEq, Prod.mk.injEq] at h
  obtain ⟨rfl, rfl⟩ := h
  have e0 : (a2 == 0) = false := by rw [beq_eq_false_iff_ne]; omega
  have e1 : decide (a2 ≤ 0) = false := decide_eq_false (by omega)
  have e2 : ¬ a2 = 0 := by omega
  have q1 : a1 / a2 ≤ a1 := Int.ediv_le_self _ h1
  have q0 : 0 ≤ a1 / a2 := Int.ediv_nonneg h1 (by omega)
  have m0 : 0 ≤ a1 % a2 := Int.emod_nonneg _ e2
  have m1 : a1 % a2 < a2 := Int.emod_lt_of_pos _ (by omega)
  have w1 : IntKind.u64.wrap (a1 / a2) = a1 / a2 := by simp only [IntKind.wrap, IntKind.signed, IntKind.bits]; simp; omega
  have w2 : IntKind.u64.wrap (a1.tdiv a2) = a1 / a2 := by rw [Int.tdiv_eq_ediv_of_nonneg h1]; exact w1
  have w3 : a1.tmod a2 = a1 % a2 := Int.tmod_eq_emod_of_nonneg h1
  clear q1 q0 m0 m1
  go_enter Try.func76, Try.ntmps76
  go_wp2
  repeat (go_quiet (fail); try go_wp2)
  go_ret2
  refine ⟨?_, by repeat (first | exact Below.refl _ _ | apply pw_below_drewN | apply below_drew1)⟩
  first | rfl | (simp; done) | (simp [*]; done)
 ·cases h
end Go.Proofs.Ytfdoncgljohndaa.P
namespace Go.Proofs.Ytfdoncgljohndaa.P
open Go.Proofs.YtfdoncgljohndaaH Go.RowKit Go.Proofs.YtfdoncgljohndaaW.PrintWords Go.Proofs.YtfdoncgljohndaaW.PrintLast Go.Proofs.YtfdoncgljohndaaW.PrintMore
attribute [local go_sem] max2_int min2_int max_two min_two max_three min_three max_four min_four   -- for this text's walks alone
attribute [local go_sem] Go.Proofs.YtfdoncgljohndaaH.cell_set_map
def rat_wide_plus.f (a0_0 : Bool) (a0_1 : Int) (a0_2 : Int) (a1_0 : Bool) (a1_1 : Int) (a1_2 : Int) : Option (Bool × Int × Int) := if (a0_0 == a1_0) = true then ((bits_Add64.f a0_2 a1_2 0).bind fun bt104 => ((bits_Add64.f a0_1 a1_1 bt104.2).bind fun bt106 => (some (a0_0, bt106.1, bt104.1)))) else ((rat_wide_atLeast.f a0_0 a0_1 a0_2 a1_0 a1_1 a1_2).bind fun t108 => (if t108 = true then ((bits_Sub64.f a0_2 a1_2 0).bind fun bt109 => ((bits_Sub64.f a0_1 a1_1 bt109.2).bind fun bt111 => (some (a0_0, bt111.1, bt109.1)))) else ((bits_Sub64.f a1_2 a0_2 0).bind fun bt113 => ((bits_Sub64.f a1_1 a0_1 bt113.2).bind fun bt115 => (some (a1_0, bt115.1, bt113.1))))))
set_option maxHeartbeats 40000000 in
set_option maxRecDepth 100000 in
theorem rat_wide_plus.calls (a0_0 : Bool) (a0_1 : Int) (a0_2 : Int) (a1_0 : Bool) (a1_1 : Int) (a1_2 : Int) (r1 : Bool) (r2 : Int) (r3 : Int) (w : World) (h : rat_wide_plus.f a0_0 a0_1 a0_2 a1_0 a1_1 a1_2 = some (r1, r2, r3)) :
  Calls Try.prog 41 #[.agg #[.bool a0_0, .int .u64 a0_1, .int .u64 a0_2], .agg #[.bool a1_0, .int .u64 a1_1, .int .u64 a1_2]] w fun e w' => e = .returned (.agg #[.bool r1, .int .u64 r2, .int .u64 r3]) ∧ Below w.heap.size w w' := by
 have hu100 := Try.underlying100; have HB := aM (Below.refl w.heap.size w)
 have H : (if (a0_0 == a1_0) = true then ((bits_Add64.f a0_2 a1_2 0).bind fun bt104 => ((bits_Add64.f a0_1 a1_1 bt104.2).bind fun bt106 => (some (a0_0, bt106.1, bt104.1)))) else ((rat_wide_atLeast.f a0_0 a0_1 a0_2 a1_0 a1_1 a1_2).bind fun t108 => (if t108 = true then ((bits_Sub64.f a0_2 a1_2 0).bind fun bt109 => ((bits_Sub64.f a0_1 a1_1 bt109.2).bind fun bt111 => (some (a0_0, bt111.1, bt109.1)))) else ((bits_Sub64.f a1_2 a0_2 0).bind fun bt113 => ((bits_Sub64.f a1_1 a0_1 bt113.2).bind fun bt115 => (some (a1_0, bt115.1, bt113.1))))))) = some (r1, r2, r3) := h
 clear h
 by_cases c3 : (a0_0 == a1_0) = true
 ·rw [if_pos c3] at H
  have c3b0 : (a0_0 == a1_0) = true := c3
  (try (have c3b1 : decide (a0_0 = a1_0) = true := by simpa using c3))
  (try (have c3b2 : (a0_0 == a1_0) = true := by simpa using c3))
  clear c3; replace H := Option.bind_eq_some_iff.mp H
  obtain ⟨⟨t104, t105⟩, A40, H⟩ := H
  replace H : ((bits_Add64.f a0_1 a1_1 t105).bind fun bt106 => (some (a0_0, bt106.1, t104))) = some (r1, r2, r3) := H
  have A4 := aM A40; clear A40; replace H := Option.bind_eq_some_iff.mp H
  obtain ⟨⟨t106, t107⟩, A50, H⟩ := H
  replace H : (some (a0_0, t106, t104)) = some (r1, r2, r3) := H
  have A5 := aM A50; clear A50
  simp only [Option.some.injEq, Prod.mk.injEq] at H
  obtain ⟨rfl, rfl, rfl⟩ := H
  go_enter Try.func41, Try.ntmps41
  go_wp2_with (first | ((with_reducible refine gate_dst (N := 2) rfl ?_); refine bE (N := 2) (cs := #[.bool a0_0, .int .u64 a0_1, .int .u64 a0_2]) (t := 100) ?_; intro gb101 hg w6 hbox hb; have BK101 := aM (hbox); have GW101 := gE hg HB; have GE101 := gE hg HB; replace HB := sB HB hb; clear hb hbox hg) | ((with_reducible refine gate_dst (N := 3) rfl ?_); refine bE (N := 3) (cs := #[.bool a1_0, .int .u64 a1_1, .int .u64 a1_2]) (t := 100) ?_; intro gb102 hg w7 hbox hb; have BK102 := aM (hbox); have GW102 := gE hg HB; have GE102 := gE hg HB; have NB101_102 := nL hg BK101; replace BK101 := bB BK101 hb; replace HB := sB HB hb; clear hb hbox hg) | ((with_reducible refine gate_dst (N := 4) rfl ?_); refine bE (N := 4) (cs := #[.bool false, .int .u64 0, .int .u64 0]) (t := 100) ?_; intro gb103 hg w8 hbox hb; have BK103 := aM (hbox); have GW103 := gE hg HB; have GE103 := gE hg HB; have NB101_103 := nL hg BK101; have NB102_103 := nL hg BK102; replace BK101 := bB BK101 hb; replace BK102 := bB BK102 hb; replace HB := sB HB hb; clear hb hbox hg; have hnb9 := NB101_102.out; have hnc9 := NB101_102.out.symm; have hnb10 := NB101_103.out; have hnc10 := NB101_103.out.symm; obtain ⟨hcz11_0, hcz11_1, hcz11_2, hfz11_0, hfz11_1, hfz11_2⟩ := cZ3 BK101; have hnb12 := NB102_103.out; have hnc12 := NB102_103.out.symm; obtain ⟨hcz13_0, hcz13_1, hcz13_2, hfz13_0, hfz13_1, hfz13_2⟩ := cZ3 BK102; have EA4 := fun W => bits_Add64.run a0_2 a1_2 0 t104 t105 W A4.out; have EA5 := fun W => bits_Add64.run a0_1 a1_1 t105 t106 t107 W A5.out; obtain ⟨hcz14_0, hcz14_1, hcz14_2, hfz14_0, hfz14_1, hfz14_2⟩ := cZ3 BK103))
  refine bodyPost_ret (results_cell_row rfl _ _ gb103 100 #[.bool a0_0, .int .u64 t106, .int .u64 t104] (0, 0) _ rfl (by refine bM ?_; refine blk_put (cs := #[.bool a0_0, .int .u64 t106, .int .u64 0]) ?_ 2 _ rfl; refine bM ?_; refine blk_put (cs := #[.bool a0_0, .int .u64 0, .int .u64 0]) ?_ 1 _ rfl; refine bM ?_; refine blk_put (cs := #[.bool false, .int .u64 0, .int .u64 0]) ?_ 0 _ rfl; exact bD BK103) Try.underlying100 rfl (by kernel_rfl)) rfl ?_
  exact ⟨by first | rfl | (simp [errW_none, errW_some] <;> rfl) | (simp [*, errW_none, errW_some] <;> rfl), sD HB⟩
 rw [if_neg c3] at H
 have c3b0 : (a0_0 == a1_0) = false := by simpa using c3
 (try (have c3b1 : decide (a0_0 = a1_0) = false := by simpa using c3))
 (try (have c3b2 : (a0_0 == a1_0) = false := by simpa using c3))
 (try (have c3b3 : ¬ (a0_0 = a1_0) := by simpa using c3))
 clear c3; replace H := Option.bind_eq_some_iff.mp H
 obtain ⟨t108, A150, H⟩ := H
 replace H : (if t108 = true then ((bits_Sub64.f a0_2 a1_2 0).bind fun bt109 => ((bits_Sub64.f a0_1 a1_1 bt109.2).bind fun bt111 => (some (a0_0, bt111.1, bt109.1)))) else ((bits_Sub64.f a1_2 a0_2 0).bind fun bt113 => ((bits_Sub64.f a1_1 a0_1 bt113.2).bind fun bt115 => (some (a1_0, bt115.1, bt113.1))))) = some (r1, r2, r3) := H
 have A15 := aM A150; clear A150
 by_cases c16 : t108 = true
 ·subst c16
  have H1 : ((bits_Sub64.f a0_2 a1_2 0).bind fun bt109 => ((bits_Sub64.f a0_1 a1_1 bt109.2).bind fun bt111 => (some (a0_0, bt111.1, bt109.1)))) = some (r1, r2, r3) := by rw [if_pos rfl] at H; exact H
  clear H; have H := H1; clear H1; replace H := Option.bind_eq_some_iff.mp H
  obtain ⟨⟨t109, t110⟩, A170, H⟩ := H
  replace H : ((bits_Sub64.f a0_1 a1_1 t110).bind fun bt111 => (some (a0_0, bt111.1, t109))) = some (r1, r2, r3) := H
  have A17 := aM A170; clear A170; replace H := Option.bind_eq_some_iff.mp H
  obtain ⟨⟨t111, t112⟩, A180, H⟩ := H
  replace H : (some (a0_0, t111, t109)) = some (r1, r2, r3) := H
  have A18 := aM A180; clear A180
  simp only [Option.some.injEq, Prod.mk.injEq] at H
  obtain ⟨rfl, rfl, rfl⟩ := H
  go_enter Try.func41, Try.ntmps41
  go_wp2_with (first | ((with_reducible refine gate_dst (N := 2) rfl ?_); refine bE (N := 2) (cs := #[.bool a0_0, .int .u64 a0_1, .int .u64 a0_2]) (t := 100) ?_; intro gb101 hg w19 hbox hb; have BK101 := aM (hbox); have GW101 := gE hg HB; have GE101 := gE hg HB; replace HB := sB HB hb; clear hb hbox hg) | ((with_reducible refine gate_dst (N := 3) rfl ?_); refine bE (N := 3) (cs := #[.bool a1_0, .int .u64 a1_1, .int .u64 a1_2]) (t := 100) ?_; intro gb102 hg w20 hbox hb; have BK102 := aM (hbox); have GW102 := gE hg HB; have GE102 := gE hg HB; have NB101_102 := nL hg BK101; replace BK101 := bB BK101 hb; replace HB := sB HB hb; clear hb hbox hg) | ((with_reducible refine gate_dst (N := 4) rfl ?_); refine bE (N := 4) (cs := #[.bool false, .int .u64 0, .int .u64 0]) (t := 100) ?_; intro gb103 hg w21 hbox hb; have BK103 := aM (hbox); have GW103 := gE hg HB; have GE103 := gE hg HB; have NB101_103 := nL hg BK101; have NB102_103 := nL hg BK102; replace BK101 := bB BK101 hb; replace BK102 := bB BK102 hb; replace HB := sB HB hb; clear hb hbox hg; have hnb22 := NB101_102.out; have hnc22 := NB101_102.out.symm; have hnb23 := NB101_103.out; have hnc23 := NB101_103.out.symm; obtain ⟨hcz24_0, hcz24_1, hcz24_2, hfz24_0, hfz24_1, hfz24_2⟩ := cZ3 BK101; have hnb25 := NB102_103.out; have hnc25 := NB102_103.out.symm; obtain ⟨hcz26_0, hcz26_1, hcz26_2, hfz26_0, hfz26_1, hfz26_2⟩ := cZ3 BK102) | ((with_reducible refine gate_callee (f := 61) rfl ?_); refine gL (some 42) Try.func61 #[.agg #[.bool a0_0, .int .u64 a0_1, .int .u64 a0_2], .agg #[.bool a1_0, .int .u64 a1_1, .int .u64 a1_2]] ?_; (with_reducible refine (rat_wide_atLeast.calls a0_0 a0_1 a0_2 a1_0 a1_1 a1_2 true _ A15.out).mono ?_); rintro e w27 ⟨rfl, hb⟩; refine ⟨_, rfl, ?_⟩; replace BK101 := bB BK101 hb; replace BK102 := bB BK102 hb; replace BK103 := bB BK103 hb; replace HB := sB HB hb; (try clear hb); obtain ⟨hcz28_0, hcz28_1, hcz28_2, hfz28_0, hfz28_1, hfz28_2⟩ := cZ3 BK101; obtain ⟨hcz29_0, hcz29_1, hcz29_2, hfz29_0, hfz29_1, hfz29_2⟩ := cZ3 BK102; have EA17 := fun W => bits_Sub64.run a0_2 a1_2 0 t109 t110 W A17.out; have EA18 := fun W => bits_Sub64.run a0_1 a1_1 t110 t111 t112 W A18.out; obtain ⟨hcz30_0, hcz30_1, hcz30_2, hfz30_0, hfz30_1, hfz30_2⟩ := cZ3 BK103))
  refine bodyPost_ret (results_cell_row rfl _ _ gb103 100 #[.bool a0_0, .int .u64 t111, .int .u64 t109] (0, 0) _ rfl (by refine bM ?_; refine blk_put (cs := #[.bool a0_0, .int .u64 t111, .int .u64 0]) ?_ 2 _ rfl; refine bM ?_; refine blk_put (cs := #[.bool a0_0, .int .u64 0, .int .u64 0]) ?_ 1 _ rfl; refine bM ?_; refine blk_put (cs := #[.bool false, .int .u64 0, .int .u64 0]) ?_ 0 _ rfl; exact bD BK103) Try.underlying100 rfl (by kernel_rfl)) rfl ?_
  exact ⟨by first | rfl | (simp [errW_none, errW_some] <;> rfl) | (simp [*, errW_none, errW_some] <;> rfl), sD HB⟩
 replace c16 := Bool.eq_false_iff.mpr c16
 subst c16
 have H1 : ((bits_Sub64.f a1_2 a0_2 0).bind fun bt113 => ((bits_Sub64.f a1_1 a0_1 bt113.2).bind fun bt115 => (some (a1_0, bt115.1, bt113.1)))) = some (r1, r2, r3) := by rw [if_neg (show ¬ (false = true) by decide)] at H; exact H
 clear H; have H := H1; clear H1; replace H := Option.bind_eq_some_iff.mp H
 obtain ⟨⟨t113, t114⟩, A310, H⟩ := H
 replace H : ((bits_Sub64.f a1_1 a0_1 t114).bind fun bt115 => (some (a1_0, bt115.1, t113))) = some (r1, r2, r3) := H
 have A31 := aM A310; clear A310; replace H := Option.bind_eq_some_iff.mp H
 obtain ⟨⟨t115, t116⟩, A320, H⟩ := H
 replace H : (some (a1_0, t115, t113)) = some (r1, r2, r3) := H
 have A32 := aM A320; clear A320
 simp only [Option.some.injEq, Prod.mk.injEq] at H
 obtain ⟨rfl, rfl, rfl⟩ := H
 go_enter Try.func41, Try.ntmps41
 go_wp2_with (first | ((with_reducible refine gate_dst (N := 2) rfl ?_); refine bE (N := 2) (cs := #[.bool a0_0, .int .u64 a0_1, .int .u64 a0_2]) (t := 100) ?_; intro gb101 hg w33 hbox hb; have BK101 := aM (hbox); have GW101 := gE hg HB; have GE101 := gE hg HB; replace HB := sB HB hb; clear hb hbox hg) | ((with_reducible refine gate_dst (N := 3) rfl ?_); refine bE (N := 3) (cs := #[.bool a1_0, .int .u64 a1_1, .int .u64 a1_2]) (t := 100) ?_; intro gb102 hg w34 hbox hb; have BK102 := aM (hbox); have GW102 := gE hg HB; have GE102 := gE hg HB; have NB101_102 := nL hg BK101; replace BK101 := bB BK101 hb; replace HB := sB HB hb; clear hb hbox hg) | ((with_reducible refine gate_dst (N := 4) rfl ?_); refine bE (N := 4) (cs := #[.bool false, .int .u64 0, .int .u64 0]) (t := 100) ?_; intro gb103 hg w35 hbox hb; have BK103 := aM (hbox); have GW103 := gE hg HB; have GE103 := gE hg HB; have NB101_103 := nL hg BK101; have NB102_103 := nL hg BK102; replace BK101 := bB BK101 hb; replace BK102 := bB BK102 hb; replace HB := sB HB hb; clear hb hbox hg; have hnb36 := NB101_102.out; have hnc36 := NB101_102.out.symm; have hnb37 := NB101_103.out; have hnc37 := NB101_103.out.symm; obtain ⟨hcz38_0, hcz38_1, hcz38_2, hfz38_0, hfz38_1, hfz38_2⟩ := cZ3 BK101; have hnb39 := NB102_103.out; have hnc39 := NB102_103.out.symm; obtain ⟨hcz40_0, hcz40_1, hcz40_2, hfz40_0, hfz40_1, hfz40_2⟩ := cZ3 BK102) | ((with_reducible refine gate_callee (f := 61) rfl ?_); refine gL (some 42) Try.func61 #[.agg #[.bool a0_0, .int .u64 a0_1, .int .u64 a0_2], .agg #[.bool a1_0, .int .u64 a1_1, .int .u64 a1_2]] ?_; (with_reducible refine (rat_wide_atLeast.calls a0_0 a0_1 a0_2 a1_0 a1_1 a1_2 false _ A15.out).mono ?_); rintro e w41 ⟨rfl, hb⟩; refine ⟨_, rfl, ?_⟩; replace BK101 := bB BK101 hb; replace BK102 := bB BK102 hb; replace BK103 := bB BK103 hb; replace HB := sB HB hb; (try clear hb); obtain ⟨hcz42_0, hcz42_1, hcz42_2, hfz42_0, hfz42_1, hfz42_2⟩ := cZ3 BK102; obtain ⟨hcz43_0, hcz43_1, hcz43_2, hfz43_0, hfz43_1, hfz43_2⟩ := cZ3 BK101; have EA31 := fun W => bits_Sub64.run a1_2 a0_2 0 t113 t114 W A31.out; have EA32 := fun W => bits_Sub64.run a1_1 a0_1 t114 t115 t116 W A32.out; obtain ⟨hcz44_0, hcz44_1, hcz44_2, hfz44_0, hfz44_1, hfz44_2⟩ := cZ3 BK103))
 refine bodyPost_ret (results_cell_row rfl _ _ gb103 100 #[.bool a1_0, .int .u64 t115, .int .u64 t113] (0, 0) _ rfl (by refine bM ?_; refine blk_put (cs := #[.bool a1_0, .int .u64 t115, .int .u64 0]) ?_ 2 _ rfl; refine bM ?_; refine blk_put (cs := #[.bool a1_0, .int .u64 0, .int .u64 0]) ?_ 1 _ rfl; refine bM ?_; refine blk_put (cs := #[.bool false, .int .u64 0, .int .u64 0]) ?_ 0 _ rfl; refine bM ?_; refine blk_far ?_ NB102_103.out.symm _; refine bM ?_; refine blk_far ?_ NB102_103.out.symm _; refine bM ?_; refine blk_far ?_ NB102_103.out.symm _; refine bM ?_; refine blk_far ?_ NB101_103.out.symm _; refine bM ?_; refine blk_far ?_ NB101_103.out.symm _; refine bM ?_; refine blk_far ?_ NB101_103.out.symm _; exact bD BK103) Try.underlying100 rfl (by kernel_rfl)) rfl ?_
 exact ⟨by first | rfl | (simp [errW_none, errW_some] <;> rfl) | (simp [*, errW_none, errW_some] <;> rfl), sD HB⟩
end Go.Proofs.Ytfdoncgljohndaa.P
namespace Go.Proofs.Ytfdoncgljohndaa.P
open Go.Proofs.YtfdoncgljohndaaH Go.RowKit Go.Proofs.YtfdoncgljohndaaW.PrintWords Go.Proofs.YtfdoncgljohndaaW.PrintLast Go.Proofs.YtfdoncgljohndaaW.PrintMore
attribute [local go_sem] max2_int min2_int max_two min_two max_three min_three max_four min_four   -- for this text's walks alone
attribute [local go_sem] Go.Proofs.YtfdoncgljohndaaH.cell_set_map
attribute [local go_sem high] eqA43
def rat_Cmp.f (a0_0 : Int) (a0_1 : Int) (a1_0 : Int) (a1_1 : Int) : Option (Int) := if (a0_0 == a1_0 && (a0_1 == a1_1)) = true then (some 0) else ((rat_times.f a1_0 a0_1).bind fun bt103 => ((rat_times.f a0_0 a1_1).bind fun bt107 => ((rat_wide_plus.f bt107.1 bt107.2.1 bt107.2.2 (!bt103.1) bt103.2.1 bt103.2.2).bind fun bt110 => (if bt110.1 = true then (some (-1)) else (some 1)))))
def rat_Cmp.T5 : Bool × List (List Nat × List Nat) := (true, [([], []), ([0], [0]), ([], []), ([2], [2]), ([1, 3], [1, 3]), ([], []), ([4, 5, 4], [4, 5]), ([6], [6])])
def rat_Cmp.B5 : List Nat := [0, 1, 0, 4, 15, 0, 63, 127]
theorem rat_Cmp.tab5 : rtab .any (opsOf Try.f24 5) = rat_Cmp.T5 := by kernel_rfl
theorem rat_Cmp.bits5 : waitsOk rat_Cmp.T5.2 rat_Cmp.B5 = true := by kernel_rfl
set_option maxHeartbeats 40000000 in
set_option maxRecDepth 100000 in
theorem rat_Cmp.calls (a0_0 : Int) (a0_1 : Int) (a1_0 : Int) (a1_1 : Int) (r : Int) (w : World) (h : rat_Cmp.f a0_0 a0_1 a1_0 a1_1 = some r) :
  Calls Try.prog 24 #[.agg #[.int .i64 a0_0, .int .i64 a0_1], .agg #[.int .i64 a1_0, .int .i64 a1_1]] w fun e w' => e = .returned (.int .i64 r) ∧ Below w.heap.size w w' := by
 have hu43 := Try.underlying43; have hu100 := Try.underlying100
 have hfd100_0 : ∀ (x0 x1 x2 : Value) (W : World), (Instr.field 100 (.agg #[x0, x1, x2]) 0).run Try.prog W = .ok (x0) W := fun _ _ _ _ => by kernel_rfl
 have HB := aM (Below.refl w.heap.size w)
 have H : (if (a0_0 == a1_0 && (a0_1 == a1_1)) = true then (some 0) else ((rat_times.f a1_0 a0_1).bind fun bt103 => ((rat_times.f a0_0 a1_1).bind fun bt107 => ((rat_wide_plus.f bt107.1 bt107.2.1 bt107.2.2 (!bt103.1) bt103.2.1 bt103.2.2).bind fun bt110 => (if bt110.1 = true then (some (-1)) else (some 1)))))) = some r := h
 clear h
 by_cases c3 : (a0_0 == a1_0 && (a0_1 == a1_1)) = true
 ·rw [if_pos c3] at H
  have c3b0 : (a0_0 == a1_0 && (a0_1 == a1_1)) = true := c3
  (try (have c3b1 : decide (a0_0 = a1_0 && (a0_1 == a1_1)) = true := by simpa using c3))
  (try (have c3b2 : (a0_0 == a1_0 && (a0_1 == a1_1)) = true := by simpa using c3))
  clear c3
  obtain rfl := Option.some.inj H
  go_enter Try.func24, Try.ntmps24
  go_wp2_with (first | ((with_reducible refine gate_dst (N := 2) rfl ?_); refine bE (N := 2) (cs := #[.int .i64 a0_0, .int .i64 a0_1]) (t := 43) ?_; intro gb101 hg w4 hbox hb; have BK101 := aM (hbox); have GW101 := gE hg HB; have GE101 := gE hg HB; replace HB := sB HB hb; clear hb hbox hg) | ((with_reducible refine gate_dst (N := 3) rfl ?_); refine bE (N := 3) (cs := #[.int .i64 a1_0, .int .i64 a1_1]) (t := 43) ?_; intro gb102 hg w5 hbox hb; have BK102 := aM (hbox); have GW102 := gE hg HB; have GE102 := gE hg HB; have NB101_102 := nL hg BK101; replace BK101 := bB BK101 hb; replace HB := sB HB hb; clear hb hbox hg; have hnb6 := NB101_102.out; have hnc6 := NB101_102.out.symm; obtain ⟨hcz7_0, hcz7_1, hfz7_0, hfz7_1⟩ := cZ2 BK101; obtain ⟨hcz8_0, hcz8_1, hfz8_0, hfz8_1⟩ := cZ2 BK102))
  go_ret
  exact ⟨by first | rfl | (simp [errW_none, errW_some] <;> rfl) | (simp [*, errW_none, errW_some] <;> rfl), sD HB⟩
 rw [if_neg c3] at H
 have c3b0 : (a0_0 == a1_0 && (a0_1 == a1_1)) = false := by simpa using c3
 (try (have c3b1 : decide (a0_0 = a1_0 && (a0_1 == a1_1)) = false := by simpa using c3))
 (try (have c3b2 : (a0_0 == a1_0 && (a0_1 == a1_1)) = false := by simpa using c3))
 (try (have c3b3 : ¬ (a0_0 = a1_0 && (a0_1 == a1_1)) := by simpa using c3))
 clear c3; replace H := Option.bind_eq_some_iff.mp H
 obtain ⟨⟨t103, t104, t105⟩, A90, H⟩ := H
 replace H : ((rat_times.f a0_0 a1_1).bind fun bt107 => ((rat_wide_plus.f bt107.1 bt107.2.1 bt107.2.2 (!t103) t104 t105).bind fun bt110 => (if bt110.1 = true then (some (-1)) else (some 1)))) = some r := H
 have A9 := aM A90; clear A90; replace H := Option.bind_eq_some_iff.mp H
 obtain ⟨⟨t107, t108, t109⟩, A100, H⟩ := H
 replace H : ((rat_wide_plus.f t107 t108 t109 (!t103) t104 t105).bind fun bt110 => (if bt110.1 = true then (some (-1)) else (some 1))) = some r := H
 have A10 := aM A100; clear A100; replace H := Option.bind_eq_some_iff.mp H
 obtain ⟨⟨t110, t111, t112⟩, A110, H⟩ := H
 replace H : (if t110 = true then (some (-1)) else (some 1)) = some r := H
 have A11 := aM A110; clear A110
 by_cases c12 : t110 = true
 ·subst c12
  have H1 : (some (-1)) = some r := by rw [if_pos rfl] at H; exact H
  clear H; have H := H1; clear H1
  obtain rfl := Option.some.inj H
  go_enter Try.func24, Try.ntmps24
  try go_wp2_with (first | ((with_reducible refine gate_dst (N := 2) rfl ?_); refine bE (N := 2) (cs := #[.int .i64 a0_0, .int .i64 a0_1]) (t := 43) ?_; intro gb101 hg w13 hbox hb; have BK101 := aM (hbox); have GW101 := gE hg HB; have GE101 := gE hg HB; replace HB := sB HB hb; clear hb hbox hg) | ((with_reducible refine gate_dst (N := 3) rfl ?_); refine bE (N := 3) (cs := #[.int .i64 a1_0, .int .i64 a1_1]) (t := 43) ?_; intro gb102 hg w14 hbox hb; have BK102 := aM (hbox); have GW102 := gE hg HB; have GE102 := gE hg HB; have NB101_102 := nL hg BK101; replace BK101 := bB BK101 hb; replace HB := sB HB hb; clear hb hbox hg; have hnb15 := NB101_102.out; have hnc15 := NB101_102.out.symm; obtain ⟨hcz16_0, hcz16_1, hfz16_0, hfz16_1⟩ := cZ2 BK101; obtain ⟨hcz17_0, hcz17_1, hfz17_0, hfz17_1⟩ := cZ2 BK102) | ((with_reducible refine gate_callee (f := 40) rfl ?_); refine gL (some 13) Try.func40 #[.int .i64 a1_0, .int .i64 a0_1] ?_; (with_reducible refine (rat_times.calls a1_0 a0_1 t103 t104 t105 _ A9.out).mono ?_); rintro e w18 ⟨rfl, hb⟩; refine ⟨_, rfl, ?_⟩; replace BK101 := bB BK101 hb; replace BK102 := bB BK102 hb; replace HB := sB HB hb; (try clear hb)) | ((with_reducible refine gate_dst (N := 5) rfl ?_); refine bE (N := 5) (cs := #[.bool false, .int .u64 0, .int .u64 0]) (t := 100) ?_; intro gb106 hg w19 hbox hb; have BK106 := aM (hbox); have GW106 := gE hg HB; have GE106 := gE hg HB; have NB101_106 := nL hg BK101; have NB102_106 := nL hg BK102; replace BK101 := bB BK101 hb; replace BK102 := bB BK102 hb; replace HB := sB HB hb; clear hb hbox hg; have hnb20 := NB101_106.out.symm; have hnc20 := NB101_106.out; have hnb21 := NB102_106.out.symm; have hnc21 := NB102_106.out; obtain ⟨hcz22_0, hcz22_1, hcz22_2, hfz22_0, hfz22_1, hfz22_2⟩ := cZ3 BK106))
  have n0_ : Aside0 (((((w19.setCell ⟨gb106, 0, none⟩ (.bool t103)).setCell ⟨gb106, 1, none⟩ (.int .u64 t104)).setCell ⟨gb106, 2, none⟩ (.int .u64 t105)).setCell ⟨gb106, 0, none⟩ (.bool (!t103))).heap[gb101]? = some (.cells #[.int .i64 a0_0, .int .i64 a0_1] 43 (0, 0))) := ⟨bF BK101⟩
  have n1_ : Aside0 (((((w19.setCell ⟨gb106, 0, none⟩ (.bool t103)).setCell ⟨gb106, 1, none⟩ (.int .u64 t104)).setCell ⟨gb106, 2, none⟩ (.int .u64 t105)).setCell ⟨gb106, 0, none⟩ (.bool (!t103))).heap[gb102]? = some (.cells #[.int .i64 a1_0, .int .i64 a1_1] 43 (0, 0))) := ⟨bF BK102⟩
  have n2_ : Aside0 (((((w19.setCell ⟨gb106, 0, none⟩ (.bool t103)).setCell ⟨gb106, 1, none⟩ (.int .u64 t104)).setCell ⟨gb106, 2, none⟩ (.int .u64 t105)).setCell ⟨gb106, 0, none⟩ (.bool (!t103))).heap[gb106]? = some (.cells #[.bool (!t103), .int .u64 t104, .int .u64 t105] 100 (0, 0))) := ⟨by refine bM ?_; refine blk_put (cs := #[.bool t103, .int .u64 t104, .int .u64 t105]) ?_ 0 _ rfl; refine bM ?_; refine blk_put (cs := #[.bool t103, .int .u64 t104, .int .u64 0]) ?_ 2 _ rfl; refine bM ?_; refine blk_put (cs := #[.bool t103, .int .u64 0, .int .u64 0]) ?_ 1 _ rfl; refine bM ?_; refine blk_put (cs := #[.bool false, .int .u64 0, .int .u64 0]) ?_ 0 _ rfl; exact bD BK106⟩
  have n3_ : Aside0 (Below w.heap.size w ((((w19.setCell ⟨gb106, 0, none⟩ (.bool t103)).setCell ⟨gb106, 1, none⟩ (.int .u64 t104)).setCell ⟨gb106, 2, none⟩ (.int .u64 t105)).setCell ⟨gb106, 0, none⟩ (.bool (!t103)))) := ⟨sD HB⟩
  (try clear BK101); (try clear BK102); (try clear BK106); (try clear HB)
  generalize ((((w19.setCell ⟨gb106, 0, none⟩ (.bool t103)).setCell ⟨gb106, 1, none⟩ (.int .u64 t104)).setCell ⟨gb106, 2, none⟩ (.int .u64 t105)).setCell ⟨gb106, 0, none⟩ (.bool (!t103))) = w23 at n0_ n1_ n2_ n3_ ⊢
  have BK101 := n0_; have BK102 := n1_; have BK106 := n2_; have HB := n3_; clear n0_ n1_ n2_ n3_; replace BK101 := aM (blk_drew BK101.out); replace BK102 := aM (blk_drew BK102.out); replace BK106 := aM (blk_drew BK106.out); replace HB := aM (below_drew1 HB.out)
  refine start_ (n := 8) (S := fun w' => w'.cell? ⟨gb101, 0, none⟩ = some (.int .i64 a0_0) ∧ w'.cell? ⟨gb101, 1, none⟩ = some (.int .i64 a0_1) ∧ w'.cell? ⟨gb102, 0, none⟩ = some (.int .i64 a1_0) ∧ w'.cell? ⟨gb102, 1, none⟩ = some (.int .i64 a1_1) ∧ w'.cell? ⟨gb106, 0, none⟩ = some (.bool (!t103)) ∧ w'.cell? ⟨gb106, 1, none⟩ = some (.int .u64 t104) ∧ w'.cell? ⟨gb106, 2, none⟩ = some (.int .u64 t105)) (ds := []) #[false, false, false, false, false, false, false, false] (by kernel_rfl) rfl rfl ⟨cE BK101 0, cE BK101 1, cE BK102 0, cE BK102 1, cE BK106 0, cE BK106 1, cE BK106 2⟩ (fun hHeld => ?_); refine with_tabW rat_Cmp.tab5 rat_Cmp.bits5 (fun HT_ HW_ => ?_)
  generalize w23.drew = w24 at BK101 BK102 BK106 HB hHeld ⊢
  refine pX (i := 0) (N := some 18) rfl rfl HT_ ?_
  refine pX (i := 2) (N := some 20) rfl rfl HT_ ?_
  refine tX (i := 1) (N := some 19) rfl rfl HT_ HW_ hHeld (Or.inl ⟨by rfl, by rintro w' ⟨s0, s1, s2, s3, s4, s5, s6⟩; go_simp; with_reducible rfl⟩) ?_
  refine tX (i := 3) (N := some 21) rfl rfl HT_ HW_ hHeld (Or.inl ⟨by rfl, by rintro w' ⟨s0, s1, s2, s3, s4, s5, s6⟩; go_simp; with_reducible rfl⟩) ?_
  refine tX (i := 5) (N := some 23) rfl rfl HT_ HW_ hHeld (Or.inl ⟨by rfl, by rintro w' ⟨s0, s1, s2, s3, s4, s5, s6⟩; go_simp; with_reducible rfl⟩) ?_
  refine oX (i := 4) (N := some 22) rfl rfl HT_ (fun K hK => ?_)
  refine gS Try.func40 #[.int .i64 a0_0, .int .i64 a1_1] ?_
  with_reducible refine (rat_times.calls a0_0 a1_1 t107 t108 t109 _ A10.out).mono ?_
  rintro e w25 ⟨rfl, hb⟩
  refine ⟨_, rfl, ?_⟩
  replace BK101 := bB BK101 hb; replace BK102 := bB BK102 hb; replace BK106 := bB BK106 hb; replace HB := sB HB hb; (try clear hb); (try clear hb2); (try clear hk); (try clear hi)
  refine hK.out _ _ ⟨cE BK101 0, cE BK101 1, cE BK102 0, cE BK102 1, cE BK106 0, cE BK106 1, cE BK106 2⟩ (fun hHeld => ?_)
  clear hK K
  refine nX (some 22) ?_
  refine oX (i := 6) (N := some 24) rfl rfl HT_ (fun K hK => ?_)
  refine gS Try.func41 #[.agg #[.bool t107, .int .u64 t108, .int .u64 t109], .agg #[.bool (!t103), .int .u64 t104, .int .u64 t105]] ?_
  with_reducible refine (rat_wide_plus.calls t107 t108 t109 (!t103) t104 t105 true t111 t112 _ A11.out).mono ?_
  rintro e w26 ⟨rfl, hb⟩
  refine ⟨_, rfl, ?_⟩
  replace BK101 := bB BK101 hb; replace BK102 := bB BK102 hb; replace BK106 := bB BK106 hb; replace HB := sB HB hb; (try clear hb); (try clear hb2); (try clear hk); (try clear hi)
  refine hK.out _ _ ⟨cE BK101 0, cE BK101 1, cE BK102 0, cE BK102 1, cE BK106 0, cE BK106 1, cE BK106 2⟩ (fun hHeld => ?_)
  clear hK K
  refine nX (some 24) ?_
  refine pX (i := 7) (N := some 25) rfl rfl HT_ ?_
  refine done_ (done_of HT_.out (by kernel_rfl)) ?_
  try go_wp2
  go_ret
  exact ⟨by first | rfl | (simp [errW_none, errW_some] <;> rfl) | (simp [*, errW_none, errW_some] <;> rfl), sD HB⟩
 replace c12 := Bool.eq_false_iff.mpr c12
 subst c12
 have H1 : (some 1) = some r := by rw [if_neg (show ¬ (false = true) by decide)] at H; exact H
 clear H; have H := H1; clear H1
 obtain rfl := Option.some.inj H
 go_enter Try.func24, Try.ntmps24
 try go_wp2_with (first | ((with_reducible refine gate_dst (N := 2) rfl ?_); refine bE (N := 2) (cs := #[.int .i64 a0_0, .int .i64 a0_1]) (t := 43) ?_; intro gb101 hg w27 hbox hb; have BK101 := aM (hbox); have GW101 := gE hg HB; have GE101 := gE hg HB; replace HB := sB HB hb; clear hb hbox hg) | ((with_reducible refine gate_dst (N := 3) rfl ?_); refine bE (N := 3) (cs := #[.int .i64 a1_0, .int .i64 a1_1]) (t := 43) ?_; intro gb102 hg w28 hbox hb; have BK102 := aM (hbox); have GW102 := gE hg HB; have GE102 := gE hg HB; have NB101_102 := nL hg BK101; replace BK101 := bB BK101 hb; replace HB := sB HB hb; clear hb hbox hg; have hnb29 := NB101_102.out; have hnc29 := NB101_102.out.symm; obtain ⟨hcz30_0, hcz30_1, hfz30_0, hfz30_1⟩ := cZ2 BK101; obtain ⟨hcz31_0, hcz31_1, hfz31_0, hfz31_1⟩ := cZ2 BK102) | ((with_reducible refine gate_callee (f := 40) rfl ?_); refine gL (some 13) Try.func40 #[.int .i64 a1_0, .int .i64 a0_1] ?_; (with_reducible refine (rat_times.calls a1_0 a0_1 t103 t104 t105 _ A9.out).mono ?_); rintro e w32 ⟨rfl, hb⟩; refine ⟨_, rfl, ?_⟩; replace BK101 := bB BK101 hb; replace BK102 := bB BK102 hb; replace HB := sB HB hb; (try clear hb)) | ((with_reducible refine gate_dst (N := 5) rfl ?_); refine bE (N := 5) (cs := #[.bool false, .int .u64 0, .int .u64 0]) (t := 100) ?_; intro gb106 hg w33 hbox hb; have BK106 := aM (hbox); have GW106 := gE hg HB; have GE106 := gE hg HB; have NB101_106 := nL hg BK101; have NB102_106 := nL hg BK102; replace BK101 := bB BK101 hb; replace BK102 := bB BK102 hb; replace HB := sB HB hb; clear hb hbox hg; have hnb34 := NB101_106.out.symm; have hnc34 := NB101_106.out; have hnb35 := NB102_106.out.symm; have hnc35 := NB102_106.out; obtain ⟨hcz36_0, hcz36_1, hcz36_2, hfz36_0, hfz36_1, hfz36_2⟩ := cZ3 BK106))
 have n0_ : Aside0 (((((w33.setCell ⟨gb106, 0, none⟩ (.bool t103)).setCell ⟨gb106, 1, none⟩ (.int .u64 t104)).setCell ⟨gb106, 2, none⟩ (.int .u64 t105)).setCell ⟨gb106, 0, none⟩ (.bool (!t103))).heap[gb101]? = some (.cells #[.int .i64 a0_0, .int .i64 a0_1] 43 (0, 0))) := ⟨bF BK101⟩
 have n1_ : Aside0 (((((w33.setCell ⟨gb106, 0, none⟩ (.bool t103)).setCell ⟨gb106, 1, none⟩ (.int .u64 t104)).setCell ⟨gb106, 2, none⟩ (.int .u64 t105)).setCell ⟨gb106, 0, none⟩ (.bool (!t103))).heap[gb102]? = some (.cells #[.int .i64 a1_0, .int .i64 a1_1] 43 (0, 0))) := ⟨bF BK102⟩
 have n2_ : Aside0 (((((w33.setCell ⟨gb106, 0, none⟩ (.bool t103)).setCell ⟨gb106, 1, none⟩ (.int .u64 t104)).setCell ⟨gb106, 2, none⟩ (.int .u64 t105)).setCell ⟨gb106, 0, none⟩ (.bool (!t103))).heap[gb106]? = some (.cells #[.bool (!t103), .int .u64 t104, .int .u64 t105] 100 (0, 0))) := ⟨by refine bM ?_; refine blk_put (cs := #[.bool t103, .int .u64 t104, .int .u64 t105]) ?_ 0 _ rfl; refine bM ?_; refine blk_put (cs := #[.bool t103, .int .u64 t104, .int .u64 0]) ?_ 2 _ rfl; refine bM ?_; refine blk_put (cs := #[.bool t103, .int .u64 0, .int .u64 0]) ?_ 1 _ rfl; refine bM ?_; refine blk_put (cs := #[.bool false, .int .u64 0, .int .u64 0]) ?_ 0 _ rfl; exact bD BK106⟩
 have n3_ : Aside0 (Below w.heap.size w ((((w33.setCell ⟨gb106, 0, none⟩ (.bool t103)).setCell ⟨gb106, 1, none⟩ (.int .u64 t104)).setCell ⟨gb106, 2, none⟩ (.int .u64 t105)).setCell ⟨gb106, 0, none⟩ (.bool (!t103)))) := ⟨sD HB⟩
 (try clear BK101); (try clear BK102); (try clear BK106); (try clear HB)
 generalize ((((w33.setCell ⟨gb106, 0, none⟩ (.bool t103)).setCell ⟨gb106, 1, none⟩ (.int .u64 t104)).setCell ⟨gb106, 2, none⟩ (.int .u64 t105)).setCell ⟨gb106, 0, none⟩ (.bool (!t103))) = w37 at n0_ n1_ n2_ n3_ ⊢
 have BK101 := n0_; have BK102 := n1_; have BK106 := n2_; have HB := n3_; clear n0_ n1_ n2_ n3_; replace BK101 := aM (blk_drew BK101.out); replace BK102 := aM (blk_drew BK102.out); replace BK106 := aM (blk_drew BK106.out); replace HB := aM (below_drew1 HB.out)
 refine start_ (n := 8) (S := fun w' => w'.cell? ⟨gb101, 0, none⟩ = some (.int .i64 a0_0) ∧ w'.cell? ⟨gb101, 1, none⟩ = some (.int .i64 a0_1) ∧ w'.cell? ⟨gb102, 0, none⟩ = some (.int .i64 a1_0) ∧ w'.cell? ⟨gb102, 1, none⟩ = some (.int .i64 a1_1) ∧ w'.cell? ⟨gb106, 0, none⟩ = some (.bool (!t103)) ∧ w'.cell? ⟨gb106, 1, none⟩ = some (.int .u64 t104) ∧ w'.cell? ⟨gb106, 2, none⟩ = some (.int .u64 t105)) (ds := []) #[false, false, false, false, false, false, false, false] (by kernel_rfl) rfl rfl ⟨cE BK101 0, cE BK101 1, cE BK102 0, cE BK102 1, cE BK106 0, cE BK106 1, cE BK106 2⟩ (fun hHeld => ?_); refine with_tabW rat_Cmp.tab5 rat_Cmp.bits5 (fun HT_ HW_ => ?_)
 generalize w37.drew = w38 at BK101 BK102 BK106 HB hHeld ⊢
 refine pX (i := 0) (N := some 18) rfl rfl HT_ ?_
 refine pX (i := 2) (N := some 20) rfl rfl HT_ ?_
 refine tX (i := 1) (N := some 19) rfl rfl HT_ HW_ hHeld (Or.inl ⟨by rfl, by rintro w' ⟨s0, s1, s2, s3, s4, s5, s6⟩; go_simp; with_reducible rfl⟩) ?_
 refine tX (i := 3) (N := some 21) rfl rfl HT_ HW_ hHeld (Or.inl ⟨by rfl, by rintro w' ⟨s0, s1, s2, s3, s4, s5, s6⟩; go_simp; with_reducible rfl⟩) ?_
 refine tX (i := 5) (N := some 23) rfl rfl HT_ HW_ hHeld (Or.inl ⟨by rfl, by rintro w' ⟨s0, s1, s2, s3, s4, s5, s6⟩; go_simp; with_reducible rfl⟩) ?_
 refine oX (i := 4) (N := some 22) rfl rfl HT_ (fun K hK => ?_)
 refine gS Try.func40 #[.int .i64 a0_0, .int .i64 a1_1] ?_
 with_reducible refine (rat_times.calls a0_0 a1_1 t107 t108 t109 _ A10.out).mono ?_
 rintro e w39 ⟨rfl, hb⟩
 refine ⟨_, rfl, ?_⟩
 replace BK101 := bB BK101 hb; replace BK102 := bB BK102 hb; replace BK106 := bB BK106 hb; replace HB := sB HB hb; (try clear hb); (try clear hb2); (try clear hk); (try clear hi)
 refine hK.out _ _ ⟨cE BK101 0, cE BK101 1, cE BK102 0, cE BK102 1, cE BK106 0, cE BK106 1, cE BK106 2⟩ (fun hHeld => ?_)
 clear hK K
 refine nX (some 22) ?_
 refine oX (i := 6) (N := some 24) rfl rfl HT_ (fun K hK => ?_)
 refine gS Try.func41 #[.agg #[.bool t107, .int .u64 t108, .int .u64 t109], .agg #[.bool (!t103), .int .u64 t104, .int .u64 t105]] ?_
 with_reducible refine (rat_wide_plus.calls t107 t108 t109 (!t103) t104 t105 false t111 t112 _ A11.out).mono ?_
 rintro e w40 ⟨rfl, hb⟩
 refine ⟨_, rfl, ?_⟩
 replace BK101 := bB BK101 hb; replace BK102 := bB BK102 hb; replace BK106 := bB BK106 hb; replace HB := sB HB hb; (try clear hb); (try clear hb2); (try clear hk); (try clear hi)
 refine hK.out _ _ ⟨cE BK101 0, cE BK101 1, cE BK102 0, cE BK102 1, cE BK106 0, cE BK106 1, cE BK106 2⟩ (fun hHeld => ?_)
 clear hK K
 refine nX (some 24) ?_
 refine pX (i := 7) (N := some 25) rfl rfl HT_ ?_
 refine done_ (done_of HT_.out (by kernel_rfl)) ?_
 try go_wp2
 go_ret
 exact ⟨by first | rfl | (simp [errW_none, errW_some] <;> rfl) | (simp [*, errW_none, errW_some] <;> rfl), sD HB⟩
end Go.Proofs.Ytfdoncgljohndaa.P
namespace Go.Proofs.Ytfdoncgljohndaa.P
open Go.Proofs.YtfdoncgljohndaaH Go.RowKit Go.Proofs.YtfdoncgljohndaaW.PrintWords Go.Proofs.YtfdoncgljohndaaW.PrintLast Go.Proofs.YtfdoncgljohndaaW.PrintMore
attribute [local go_sem] max2_int min2_int max_two min_two max_three min_three max_four min_four   -- for this text's walks alone
def rat_wide_zero.f (a0_0 : Bool) (a0_1 : Int) (a0_2 : Int) : Option (Bool) := if a0_1 = 0 then (some (a0_2 == 0)) else (some false)
set_option maxHeartbeats 40000000 in
set_option maxRecDepth 100000 in
theorem rat_wide_zero.calls (a0_0 : Bool) (a0_1 : Int) (a0_2 : Int) (r : Bool) (w : World) (h : rat_wide_zero.f a0_0 a0_1 a0_2 = some r) :
  Calls Try.prog 64 #[.agg #[.bool a0_0, .int .u64 a0_1, .int .u64 a0_2]] w fun e w' => e = .returned (.bool r) ∧ Below w.heap.size w w' := by
 have hu100 := Try.underlying100; have HB := aM (Below.refl w.heap.size w)
 have H : (if a0_1 = 0 then (some (a0_2 == 0)) else (some false)) = some r := h
 clear h
 by_cases c2 : a0_1 = 0
 rotate_left
 ·rw [if_neg c2] at H
  have c2b0 : (a0_1 == 0) = false := beq_eq_false_iff_ne.mpr c2
  have c2b1 : (a0_1 != 0) = true := bne_iff_ne.mpr c2
  obtain rfl := Option.some.inj H
  go_enter Try.func64, Try.ntmps64
  go_wp2_with (first | ((with_reducible refine gate_dst (N := 1) rfl ?_); refine bE (N := 1) (cs := #[.bool a0_0, .int .u64 a0_1, .int .u64 a0_2]) (t := 100) ?_; intro gb101 hg w5 hbox hb; have BK101 := aM (hbox); have GW101 := gE hg HB; have GE101 := gE hg HB; replace HB := sB HB hb; clear hb hbox hg; obtain ⟨hcz6_0, hcz6_1, hcz6_2, hfz6_0, hfz6_1, hfz6_2⟩ := cZ3 BK101))
  go_ret
  exact ⟨by first | rfl | (simp [errW_none, errW_some] <;> rfl) | (simp [*, errW_none, errW_some] <;> rfl), sD HB⟩
 rw [if_pos c2] at H
 have c2b0 : (a0_1 == 0) = true := beq_iff_eq.mpr c2
 have c2b1 : (a0_1 != 0) = false := bne_eq_false_iff_eq.mpr c2
 clear c2
 obtain rfl := Option.some.inj H
 go_enter Try.func64, Try.ntmps64
 go_wp2_with (first | ((with_reducible refine gate_dst (N := 1) rfl ?_); refine bE (N := 1) (cs := #[.bool a0_0, .int .u64 a0_1, .int .u64 a0_2]) (t := 100) ?_; intro gb101 hg w3 hbox hb; have BK101 := aM (hbox); have GW101 := gE hg HB; have GE101 := gE hg HB; replace HB := sB HB hb; clear hb hbox hg; obtain ⟨hcz4_0, hcz4_1, hcz4_2, hfz4_0, hfz4_1, hfz4_2⟩ := cZ3 BK101))
 go_ret
 exact ⟨by first | rfl | (simp [errW_none, errW_some] <;> rfl) | (simp [*, errW_none, errW_some] <;> rfl), sD HB⟩
end Go.Proofs.Ytfdoncgljohndaa.P
namespace Go.Proofs.Ytfdoncgljohndaa.P
open Go.Proofs.YtfdoncgljohndaaH Go.RowKit Go.Proofs.YtfdoncgljohndaaW.PrintWords Go.Proofs.YtfdoncgljohndaaW.PrintLast Go.Proofs.YtfdoncgljohndaaW.PrintMore
attribute [local go_sem] max2_int min2_int max_two min_two max_three min_three max_four min_four   -- for this text's walks alone
def bits_Rem64.f (a0 : Int) (a1 : Int) (a2 : Int) : Option (Int) := if a2 = 0 then (none) else ((bits_Div64.f (Int.tmod a0 a2) a1 a2).bind fun bt101 => (some bt101.2))
set_option maxHeartbeats 40000000 in
set_option maxRecDepth 100000 in
theorem bits_Rem64.calls (a0 : Int) (a1 : Int) (a2 : Int) (r : Int) (w : World) (h : bits_Rem64.f a0 a1 a2 = some r) :
  Calls Try.prog 66 #[.int .u64 a0, .int .u64 a1, .int .u64 a2] w fun e w' => e = .returned (.int .u64 r) ∧ Below w.heap.size w w' := by
 have HB := aM (Below.refl w.heap.size w)
 have H : (if a2 = 0 then (none) else ((bits_Div64.f (Int.tmod a0 a2) a1 a2).bind fun bt101 => (some bt101.2))) = some r := h
 clear h
 by_cases c4 : a2 = 0
 ·rw [if_pos c4] at H
  exact absurd H (by simp)
 rw [if_neg c4] at H
 have c4b0 : (a2 == 0) = false := beq_eq_false_iff_ne.mpr c4
 have c4b1 : (a2 != 0) = true := bne_iff_ne.mpr c4
 replace H := Option.bind_eq_some_iff.mp H
 obtain ⟨⟨t101, t102⟩, A50, H⟩ := H
 replace H : (some t102) = some r := H
 have A5 := aM A50; clear A50
 obtain rfl := Option.some.inj H
 go_enter Try.func66, Try.ntmps66
 go_wp2_with (first | ((with_reducible refine gate_callee (f := 76) rfl ?_); refine gL (some 15) Try.func76 #[.int .u64 (Int.tmod a0 a2), .int .u64 a1, .int .u64 a2] ?_; (with_reducible refine (bits_Div64.calls (Int.tmod a0 a2) a1 a2 t101 t102 _ A5.out).mono ?_); rintro e w6 ⟨rfl, hb⟩; refine ⟨_, rfl, ?_⟩; replace HB := sB HB hb; (try clear hb)))
 go_ret
 exact ⟨by first | rfl | (simp [errW_none, errW_some] <;> rfl) | (simp [*, errW_none, errW_some] <;> rfl), sD HB⟩
end Go.Proofs.Ytfdoncgljohndaa.P
namespace Go.Proofs.Ytfdoncgljohndaa.P
open Go.Proofs.YtfdoncgljohndaaH Go.RowKit Go.Proofs.YtfdoncgljohndaaW.PrintWords Go.Proofs.YtfdoncgljohndaaW.PrintLast Go.Proofs.YtfdoncgljohndaaW.PrintMore
attribute [local go_sem] max2_int min2_int max_two min_two max_three min_three max_four min_four   -- for this text's walks alone
attribute [local go_sem] Go.Proofs.YtfdoncgljohndaaH.cell_set_map
def rat_wide_over.f (a0_0 : Bool) (a0_1 : Int) (a0_2 : Int) (a1 : Int) : Option (Bool × Int × Int) := if a1 = 0 then (none) else ((bits_Div64.f (Int.tmod a0_1 a1) a0_2 a1).bind fun bt103 => (some (a0_0, IntKind.u64.wrap (Int.tdiv a0_1 a1), bt103.1)))
def rat_wide_over.T1 : Bool × List (List Nat × List Nat) := (true, [([], []), ([0], [0]), ([], []), ([1, 2], [1, 2]), ([], []), ([4], [4]), ([], []), ([3, 5, 6], [3, 5, 6]), ([7], [7]), ([8], [8]), ([8], [8]), ([9, 7, 0, 1, 2, 3, 4, 5, 6, 7, 8, 9], [9]), ([10, 11, 0, 1, 2, 3, 4, 5, 6, 7, 8, 9, 10, 11], [10])])
def rat_wide_over.B1 : List Nat := [0, 1, 0, 7, 0, 16, 0, 127, 255, 511, 511, 1023, 4095]
theorem rat_wide_over.tab1 : rtab .any (opsOf Try.f68 1) = rat_wide_over.T1 := by kernel_rfl
theorem rat_wide_over.bits1 : waitsOk rat_wide_over.T1.2 rat_wide_over.B1 = true := by kernel_rfl
def rat_wide_over.T2 : Bool × List (List Nat × List Nat) := (true, [([], []), ([0], [0]), ([], []), ([2], [2]), ([], []), ([3, 4], [3, 4]), ([], []), ([1, 5, 6], [1, 5, 6]), ([7, 0, 1, 2, 3, 4, 5, 6, 7], [7])])
def rat_wide_over.B2 : List Nat := [0, 1, 0, 4, 0, 28, 0, 127, 255]
theorem rat_wide_over.tab2 : rtab .any (opsOf Try.f68 2) = rat_wide_over.T2 := by kernel_rfl
theorem rat_wide_over.bits2 : waitsOk rat_wide_over.T2.2 rat_wide_over.B2 = true := by kernel_rfl
set_option maxHeartbeats 40000000 in
set_option maxRecDepth 100000 in
theorem rat_wide_over.calls (a0_0 : Bool) (a0_1 : Int) (a0_2 : Int) (a1 : Int) (r1 : Bool) (r2 : Int) (r3 : Int) (w : World) (h : rat_wide_over.f a0_0 a0_1 a0_2 a1 = some (r1, r2, r3)) :
  Calls Try.prog 68 #[.agg #[.bool a0_0, .int .u64 a0_1, .int .u64 a0_2], .int .u64 a1] w fun e w' => e = .returned (.agg #[.bool r1, .int .u64 r2, .int .u64 r3]) ∧ Below w.heap.size w w' := by
 have hu100 := Try.underlying100; have HB := aM (Below.refl w.heap.size w)
 have H : (if a1 = 0 then (none) else ((bits_Div64.f (Int.tmod a0_1 a1) a0_2 a1).bind fun bt103 => (some (a0_0, IntKind.u64.wrap (Int.tdiv a0_1 a1), bt103.1)))) = some (r1, r2, r3) := h
 clear h
 by_cases c3 : a1 = 0
 ·rw [if_pos c3] at H
  exact absurd H (by simp)
 rw [if_neg c3] at H
 have c3b0 : (a1 == 0) = false := beq_eq_false_iff_ne.mpr c3
 have c3b1 : (a1 != 0) = true := bne_iff_ne.mpr c3
 replace H := Option.bind_eq_some_iff.mp H
 obtain ⟨⟨t103, t104⟩, A40, H⟩ := H
 replace H : (some (a0_0, IntKind.u64.wrap (Int.tdiv a0_1 a1), t103)) = some (r1, r2, r3) := H
 have A4 := aM A40; clear A40
 simp only [Option.some.injEq, Prod.mk.injEq] at H
 obtain ⟨rfl, rfl, rfl⟩ := H
 go_enter Try.func68, Try.ntmps68
 try go_wp2_with (first | ((with_reducible refine gate_dst (N := 2) rfl ?_); refine bE (N := 2) (cs := #[.bool a0_0, .int .u64 a0_1, .int .u64 a0_2]) (t := 100) ?_; intro gb101 hg w5 hbox hb; have BK101 := aM (hbox); have GW101 := gE hg HB; have GE101 := gE hg HB; replace HB := sB HB hb; clear hb hbox hg) | ((with_reducible refine gate_dst (N := 4) rfl ?_); refine bE (N := 4) (cs := #[.bool false, .int .u64 0, .int .u64 0]) (t := 100) ?_; intro gb102 hg w6 hbox hb; have BK102 := aM (hbox); have GW102 := gE hg HB; have GE102 := gE hg HB; have NB101_102 := nL hg BK101; replace BK101 := bB BK101 hb; replace HB := sB HB hb; clear hb hbox hg))
 replace BK101 := aM (blk_drew BK101.out); replace BK102 := aM (blk_drew BK102.out); replace HB := aM (below_drew1 HB.out)
 refine start_ (n := 13) (S := fun w' => w'.cell? ⟨gb101, 0, none⟩ = some (.bool a0_0) ∧ w'.cell? ⟨gb101, 1, none⟩ = some (.int .u64 a0_1) ∧ w'.cell? ⟨gb101, 2, none⟩ = some (.int .u64 a0_2)) (ds := []) #[false, false, false, false, false, false, false, false, false, false, false, false, false] (by kernel_rfl) rfl rfl ⟨cE BK101 0, cE BK101 1, cE BK101 2⟩ (fun hHeld => ?_); refine with_tabW rat_wide_over.tab1 rat_wide_over.bits1 (fun HT_ HW_ => ?_)
 generalize w6.drew = w7 at BK101 BK102 HB hHeld ⊢
 refine pX (i := 0) (N := some 8) rfl rfl HT_ ?_
 refine pX (i := 2) (N := some 10) rfl rfl HT_ ?_
 refine pX (i := 4) (N := some 12) rfl rfl HT_ ?_
 refine pX (i := 6) (N := some 14) rfl rfl HT_ ?_
 refine tX (i := 1) (N := some 9) rfl rfl HT_ HW_ hHeld (Or.inl ⟨by rfl, by rintro w' ⟨s0, s1, s2⟩; go_simp; with_reducible rfl⟩) ?_
 refine pX (i := 3) (N := some 11) rfl rfl HT_ ?_
 refine tX (i := 5) (N := some 13) rfl rfl HT_ HW_ hHeld (Or.inl ⟨by rfl, by rintro w' ⟨s0, s1, s2⟩; go_simp; with_reducible rfl⟩) ?_
 refine oX (i := 7) (N := some 15) rfl rfl HT_ (fun K hK => ?_)
 refine gS Try.func76 #[.int .u64 (Int.tmod a0_1 a1), .int .u64 a0_2, .int .u64 a1] ?_
 with_reducible refine (bits_Div64.calls (Int.tmod a0_1 a1) a0_2 a1 t103 t104 _ A4.out).mono ?_
 rintro e w8 ⟨rfl, hb⟩
 refine ⟨_, rfl, ?_⟩
 replace BK101 := bB BK101 hb; replace BK102 := bB BK102 hb; replace HB := sB HB hb; (try clear hb); (try clear hb2); (try clear hk); (try clear hi)
 refine hK.out _ _ ⟨cE BK101 0, cE BK101 1, cE BK101 2⟩ (fun hHeld => ?_)
 clear hK K
 refine nX (some 15) ?_
 refine pX (i := 8) (N := some 7) rfl rfl HT_ ?_
 refine pX (i := 9) (N := some 16) rfl rfl HT_ ?_
 refine pX (i := 10) (N := some 17) rfl rfl HT_ ?_
 refine pX (i := 11) (N := some 5) rfl rfl HT_ ?_
 refine pX (i := 12) (N := some 6) rfl rfl HT_ ?_
 refine done_ (done_of HT_.out (by kernel_rfl)) ?_
 try go_wp2
 replace BK101 := aM (blk_drew BK101.out); replace BK102 := aM (blk_drew BK102.out); replace HB := aM (below_drew1 HB.out)
 refine start_ (n := 9) (S := fun w' => w'.cell? ⟨gb101, 0, none⟩ = some (.bool a0_0) ∧ w'.cell? ⟨gb101, 1, none⟩ = some (.int .u64 a0_1) ∧ w'.cell? ⟨gb101, 2, none⟩ = some (.int .u64 a0_2)) (ds := []) #[false, false, false, false, false, false, false, false, false] (by kernel_rfl) rfl rfl ⟨cE BK101 0, cE BK101 1, cE BK101 2⟩ (fun hHeld => ?_); refine with_tabW rat_wide_over.tab2 rat_wide_over.bits2 (fun HT_ HW_ => ?_)
 generalize w8.drew = w9 at BK101 BK102 HB hHeld ⊢
 refine pX (i := 0) (N := some 18) rfl rfl HT_ ?_
 refine pX (i := 2) (N := some 20) rfl rfl HT_ ?_
 refine pX (i := 4) (N := some 22) rfl rfl HT_ ?_
 refine pX (i := 6) (N := some 24) rfl rfl HT_ ?_
 refine tX (i := 1) (N := some 19) rfl rfl HT_ HW_ hHeld (Or.inl ⟨by rfl, by rintro w' ⟨s0, s1, s2⟩; go_simp; with_reducible rfl⟩) ?_
 refine tX (i := 3) (N := some 21) rfl rfl HT_ HW_ hHeld (Or.inl ⟨by rfl, by rintro w' ⟨s0, s1, s2⟩; go_simp; with_reducible rfl⟩) ?_
 refine pX (i := 5) (N := some 23) rfl rfl HT_ ?_
 refine pX (i := 7) (N := some 25) rfl rfl HT_ ?_
 refine oX (i := 8) (N := none) rfl rfl HT_ (fun K hK => ?_)
 have hs10 : w9.cell? ⟨gb102, 0, none⟩ = some (.bool false) := (blk_cell BK102.out 0).trans rfl
 have hfs10 := blk_frozen BK102.out 0; have hns10_0 := NB101_102.out; have hms10_0 := NB101_102.out.symm
 have hs11 : w9.cell? ⟨gb102, 1, none⟩ = some (.int .u64 0) := (blk_cell BK102.out 1).trans rfl
 have hfs11 := blk_frozen BK102.out 1; have hns11_0 := NB101_102.out; have hms11_0 := NB101_102.out.symm
 have hs12 : w9.cell? ⟨gb102, 2, none⟩ = some (.int .u64 0) := (blk_cell BK102.out 2).trans rfl
 have hfs12 := blk_frozen BK102.out 2; have hns12_0 := NB101_102.out; have hms12_0 := NB101_102.out.symm
 refine skip_ (w1 := ?_) (by rfl) rfl ?_ ?_
 rotate_left
 ·go_simp
  rfl
 refine hK.out _ _ ⟨((cell_far (p := ⟨gb102, _, none⟩) NB101_102.out _).trans (((cell_far (p := ⟨gb102, _, none⟩) NB101_102.out _).trans (((cell_far (p := ⟨gb102, _, none⟩) NB101_102.out _).trans (hHeld.1)))))), ((cell_far (p := ⟨gb102, _, none⟩) NB101_102.out _).trans (((cell_far (p := ⟨gb102, _, none⟩) NB101_102.out _).trans (((cell_far (p := ⟨gb102, _, none⟩) NB101_102.out _).trans (hHeld.2.1)))))), ((cell_far (p := ⟨gb102, _, none⟩) NB101_102.out _).trans (((cell_far (p := ⟨gb102, _, none⟩) NB101_102.out _).trans (((cell_far (p := ⟨gb102, _, none⟩) NB101_102.out _).trans (hHeld.2.2))))))⟩ (fun hHeld => ?_)
 clear hK K
 refine done_ (done_of HT_.out (by kernel_rfl)) ?_
 try go_wp2
 refine bodyPost_ret (results_cell_row rfl _ _ gb102 100 #[.bool a0_0, .int .u64 (IntKind.u64.wrap (Int.tdiv a0_1 a1)), .int .u64 t103] (0, 0) _ rfl (by refine bM ?_; refine blk_put (cs := #[.bool a0_0, .int .u64 (IntKind.u64.wrap (Int.tdiv a0_1 a1)), .int .u64 0]) ?_ 2 _ rfl; refine bM ?_; refine blk_put (cs := #[.bool a0_0, .int .u64 0, .int .u64 0]) ?_ 1 _ rfl; refine bM ?_; refine blk_put (cs := #[.bool false, .int .u64 0, .int .u64 0]) ?_ 0 _ rfl; exact bD BK102) Try.underlying100 rfl (by kernel_rfl)) rfl ?_
 exact ⟨by first | rfl | (simp [errW_none, errW_some] <;> rfl) | (simp [*, errW_none, errW_some] <;> rfl), sD HB⟩
end Go.Proofs.Ytfdoncgljohndaa.P
namespace Go.Proofs.Ytfdoncgljohndaa.P
open Go.Proofs.YtfdoncgljohndaaH Go.RowKit Go.Proofs.YtfdoncgljohndaaW.PrintWords Go.Proofs.YtfdoncgljohndaaW.PrintLast Go.Proofs.YtfdoncgljohndaaW.PrintMore
attribute [local go_sem] max2_int min2_int max_two min_two max_three min_three max_four min_four   -- for this text's walks alone
attribute [local go_sem] Go.Proofs.YtfdoncgljohndaaH.cell_set_map
def rat_Add.f (k : Nat) (a0_0 : Int) (a0_1 : Int) (a1_0 : Int) (a1_1 : Int) : Option (Int × Int × Int) := (rat_gcd.f k (([IntKind.u64.wrap (a0_1), IntKind.u64.wrap (a1_1)] : List Int))).bind fun t107 => (if (wrap64 (t107)) = 0 then (none) else ((rat_times.f a0_0 (wrap64 (Int.tdiv a1_1 (wrap64 (t107))))).bind fun bt108 => ((rat_times.f a1_0 (wrap64 (Int.tdiv a0_1 (wrap64 (t107))))).bind fun bt111 => ((rat_wide_plus.f bt108.1 bt108.2.1 bt108.2.2 bt111.1 bt111.2.1 bt111.2.2).bind fun bt114 => ((rat_wide_zero.f bt114.1 bt114.2.1 bt114.2.2).bind fun t118 => (if t118 = true then ((rat_zero.f).bind fun bt119 => (some (bt119.1, bt119.2.1, bt119.2.2))) else ((bits_Rem64.f bt114.2.1 bt114.2.2 t107).bind fun t122 => ((rat_gcd.f k (([t122, t107] : List Int))).bind fun t126 => ((rat_wide_over.f bt114.1 bt114.2.1 bt114.2.2 t126).bind fun bt127 => (if (wrap64 (t126)) = 0 then (none) else ((rat_times.f (wrap64 (Int.tdiv a0_1 (wrap64 (t107)))) (wrap64 (Int.tdiv a1_1 (wrap64 (t126))))).bind fun bt130 => ((rat_made.f k bt127.1 bt127.2.1 bt127.2.2 bt130.1 bt130.2.1 bt130.2.2).bind fun bt133 => (some (bt133.1, bt133.2.1, bt133.2.2))))))))))))))
def rat_Add.T2 : Bool × List (List Nat × List Nat) := (true, [([], []), ([0], [0]), ([], []), ([2], [2]), ([], []), ([4], [4]), ([3, 5], [3, 5]), ([1, 6], [1, 6]), ([], []), ([8], [8]), ([], []), ([10], [10]), ([], []), ([12], [12]), ([11, 13], [11, 13]), ([9, 14, 7], [9, 14]), ([7, 15, 15], [7, 15]), ([], []), ([17, 16, 16, 0, 1, 2, 3, 4, 5, 6, 7, 8, 9, 10, 11, 12, 13, 14, 15, 16, 17], [16, 17])])
def rat_Add.B2 : List Nat := [0, 1, 0, 4, 0, 16, 60, 127, 0, 256, 0, 1024, 0, 4096, 15360, 32767, 65535, 0, 262143]
theorem rat_Add.tab2 : rtab .any (opsOf Try.f42 2) = rat_Add.T2 := by kernel_rfl
theorem rat_Add.bits2 : waitsOk rat_Add.T2.2 rat_Add.B2 = true := by kernel_rfl
def rat_Add.T6 : Bool × List (List Nat × List Nat) := (true, [([], []), ([], []), ([0, 1], [0, 1]), ([], []), ([3], [3]), ([], []), ([5], [5]), ([4, 6], [4, 6]), ([], []), ([8], [8]), ([], []), ([10], [10]), ([9, 11], [9, 11]), ([7, 12, 2], [7, 12]), ([2, 13, 13], [2, 13]), ([14], [14]), ([14], [14]), ([15, 14, 0, 1, 2, 3, 4, 5, 6, 7, 8, 9, 10, 11, 12, 13, 14, 15, 16], [15]), ([16, 17, 0, 1, 2, 3, 4, 5, 6, 7, 8, 9, 10, 11, 12, 13, 14, 15, 16, 17], [16])])
def rat_Add.B6 : List Nat := [0, 0, 3, 0, 8, 0, 32, 120, 0, 256, 0, 1024, 3840, 8191, 16383, 32767, 32767, 131071, 262143]
theorem rat_Add.tab6 : rtab .any (opsOf Try.f42 6) = rat_Add.T6 := by kernel_rfl
theorem rat_Add.bits6 : waitsOk rat_Add.T6.2 rat_Add.B6 = true := by kernel_rfl
set_option maxHeartbeats 40000000 in
set_option maxRecDepth 100000 in
theorem rat_Add.calls (k : Nat) (a0_0 : Int) (a0_1 : Int) (a1_0 : Int) (a1_1 : Int) (r1 : Int) (r2 : Int) (r3 : Int) (w : World) (h : rat_Add.f k a0_0 a0_1 a1_0 a1_1 = some (r1, r2, r3)) :
  Calls Try.prog 42 #[.agg #[.int .i64 a0_0, .int .i64 a0_1], .agg #[.int .i64 a1_0, .int .i64 a1_1]] w fun e w' => e = .returned (.tuple #[.agg #[.int .i64 r1, .int .i64 r2], .int .i64 r3]) ∧ Below w.heap.size w w' := by
 have hu43 := Try.underlying43; have hu100 := Try.underlying100; have HB := aM (Below.refl w.heap.size w)
 have H : ((rat_gcd.f k (([IntKind.u64.wrap (a0_1), IntKind.u64.wrap (a1_1)] : List Int))).bind fun t107 => (if (wrap64 (t107)) = 0 then (none) else ((rat_times.f a0_0 (wrap64 (Int.tdiv a1_1 (wrap64 (t107))))).bind fun bt108 => ((rat_times.f a1_0 (wrap64 (Int.tdiv a0_1 (wrap64 (t107))))).bind fun bt111 => ((rat_wide_plus.f bt108.1 bt108.2.1 bt108.2.2 bt111.1 bt111.2.1 bt111.2.2).bind fun bt114 => ((rat_wide_zero.f bt114.1 bt114.2.1 bt114.2.2).bind fun t118 => (if t118 = true then ((rat_zero.f).bind fun bt119 => (some (bt119.1, bt119.2.1, bt119.2.2))) else ((bits_Rem64.f bt114.2.1 bt114.2.2 t107).bind fun t122 => ((rat_gcd.f k (([t122, t107] : List Int))).bind fun t126 => ((rat_wide_over.f bt114.1 bt114.2.1 bt114.2.2 t126).bind fun bt127 => (if (wrap64 (t126)) = 0 then (none) else ((rat_times.f (wrap64 (Int.tdiv a0_1 (wrap64 (t107)))) (wrap64 (Int.tdiv a1_1 (wrap64 (t126))))).bind fun bt130 => ((rat_made.f k bt127.1 bt127.2.1 bt127.2.2 bt130.1 bt130.2.1 bt130.2.2).bind fun bt133 => (some (bt133.1, bt133.2.1, bt133.2.2))))))))))))))) = some (r1, r2, r3) := h
 clear h
 obtain ⟨y104, hy104⟩ : ∃ y_ : List Int, y_ = (([IntKind.u64.wrap (a0_1), IntKind.u64.wrap (a1_1)] : List Int)) := ⟨_, rfl⟩
 replace H : ((rat_gcd.f k y104).bind fun t107 => (if (wrap64 (t107)) = 0 then (none) else ((rat_times.f a0_0 (wrap64 (Int.tdiv a1_1 (wrap64 (t107))))).bind fun bt108 => ((rat_times.f a1_0 (wrap64 (Int.tdiv a0_1 (wrap64 (t107))))).bind fun bt111 => ((rat_wide_plus.f bt108.1 bt108.2.1 bt108.2.2 bt111.1 bt111.2.1 bt111.2.2).bind fun bt114 => ((rat_wide_zero.f bt114.1 bt114.2.1 bt114.2.2).bind fun t118 => (if t118 = true then ((rat_zero.f).bind fun bt119 => (some (bt119.1, bt119.2.1, bt119.2.2))) else ((bits_Rem64.f bt114.2.1 bt114.2.2 t107).bind fun t122 => ((rat_gcd.f k (([t122, t107] : List Int))).bind fun t126 => ((rat_wide_over.f bt114.1 bt114.2.1 bt114.2.2 t126).bind fun bt127 => (if (wrap64 (t126)) = 0 then (none) else ((rat_times.f (wrap64 (Int.tdiv a0_1 (wrap64 (t107)))) (wrap64 (Int.tdiv a1_1 (wrap64 (t126))))).bind fun bt130 => ((rat_made.f k bt127.1 bt127.2.1 bt127.2.2 bt130.1 bt130.2.1 bt130.2.2).bind fun bt133 => (some (bt133.1, bt133.2.1, bt133.2.2))))))))))))))) = some (r1, r2, r3) := by first | (rw [hy104]; with_reducible exact H) | (have H2_ := (Option.bind_some _ _).symm.trans H; rw [hy104]; with_reducible exact H2_) | (have H2_ := (Option.bind_some _ _).symm.trans H; with_reducible exact H2_) | with_reducible exact H | (rw [hy104]; exact H) | exact H
 have Ny104 := aM hy104; clear hy104; replace H := Option.bind_eq_some_iff.mp H
 obtain ⟨t107, A30, H⟩ := H
 replace H : (if (wrap64 (t107)) = 0 then (none) else ((rat_times.f a0_0 (wrap64 (Int.tdiv a1_1 (wrap64 (t107))))).bind fun bt108 => ((rat_times.f a1_0 (wrap64 (Int.tdiv a0_1 (wrap64 (t107))))).bind fun bt111 => ((rat_wide_plus.f bt108.1 bt108.2.1 bt108.2.2 bt111.1 bt111.2.1 bt111.2.2).bind fun bt114 => ((rat_wide_zero.f bt114.1 bt114.2.1 bt114.2.2).bind fun t118 => (if t118 = true then ((rat_zero.f).bind fun bt119 => (some (bt119.1, bt119.2.1, bt119.2.2))) else ((bits_Rem64.f bt114.2.1 bt114.2.2 t107).bind fun t122 => ((rat_gcd.f k (([t122, t107] : List Int))).bind fun t126 => ((rat_wide_over.f bt114.1 bt114.2.1 bt114.2.2 t126).bind fun bt127 => (if (wrap64 (t126)) = 0 then (none) else ((rat_times.f (wrap64 (Int.tdiv a0_1 (wrap64 (t107)))) (wrap64 (Int.tdiv a1_1 (wrap64 (t126))))).bind fun bt130 => ((rat_made.f k bt127.1 bt127.2.1 bt127.2.2 bt130.1 bt130.2.1 bt130.2.2).bind fun bt133 => (some (bt133.1, bt133.2.1, bt133.2.2)))))))))))))) = some (r1, r2, r3) := H
 have A3 := aM A30; clear A30
 by_cases c4 : (wrap64 (t107)) = 0
 ·rw [if_pos c4] at H
  exact absurd H (by simp)
 rw [if_neg c4] at H
 have c4b0 : ((wrap64 (t107)) == 0) = false := beq_eq_false_iff_ne.mpr c4
 have c4b1 : ((wrap64 (t107)) != 0) = true := bne_iff_ne.mpr c4
 replace H := Option.bind_eq_some_iff.mp H
 obtain ⟨⟨t108, t109, t110⟩, A50, H⟩ := H
 replace H : ((rat_times.f a1_0 (wrap64 (Int.tdiv a0_1 (wrap64 (t107))))).bind fun bt111 => ((rat_wide_plus.f t108 t109 t110 bt111.1 bt111.2.1 bt111.2.2).bind fun bt114 => ((rat_wide_zero.f bt114.1 bt114.2.1 bt114.2.2).bind fun t118 => (if t118 = true then ((rat_zero.f).bind fun bt119 => (some (bt119.1, bt119.2.1, bt119.2.2))) else ((bits_Rem64.f bt114.2.1 bt114.2.2 t107).bind fun t122 => ((rat_gcd.f k (([t122, t107] : List Int))).bind fun t126 => ((rat_wide_over.f bt114.1 bt114.2.1 bt114.2.2 t126).bind fun bt127 => (if (wrap64 (t126)) = 0 then (none) else ((rat_times.f (wrap64 (Int.tdiv a0_1 (wrap64 (t107)))) (wrap64 (Int.tdiv a1_1 (wrap64 (t126))))).bind fun bt130 => ((rat_made.f k bt127.1 bt127.2.1 bt127.2.2 bt130.1 bt130.2.1 bt130.2.2).bind fun bt133 => (some (bt133.1, bt133.2.1, bt133.2.2)))))))))))) = some (r1, r2, r3) := H
 have A5 := aM A50; clear A50; replace H := Option.bind_eq_some_iff.mp H
 obtain ⟨⟨t111, t112, t113⟩, A60, H⟩ := H
 replace H : ((rat_wide_plus.f t108 t109 t110 t111 t112 t113).bind fun bt114 => ((rat_wide_zero.f bt114.1 bt114.2.1 bt114.2.2).bind fun t118 => (if t118 = true then ((rat_zero.f).bind fun bt119 => (some (bt119.1, bt119.2.1, bt119.2.2))) else ((bits_Rem64.f bt114.2.1 bt114.2.2 t107).bind fun t122 => ((rat_gcd.f k (([t122, t107] : List Int))).bind fun t126 => ((rat_wide_over.f bt114.1 bt114.2.1 bt114.2.2 t126).bind fun bt127 => (if (wrap64 (t126)) = 0 then (none) else ((rat_times.f (wrap64 (Int.tdiv a0_1 (wrap64 (t107)))) (wrap64 (Int.tdiv a1_1 (wrap64 (t126))))).bind fun bt130 => ((rat_made.f k bt127.1 bt127.2.1 bt127.2.2 bt130.1 bt130.2.1 bt130.2.2).bind fun bt133 => (some (bt133.1, bt133.2.1, bt133.2.2))))))))))) = some (r1, r2, r3) := H
 have A6 := aM A60; clear A60; replace H := Option.bind_eq_some_iff.mp H
 obtain ⟨⟨t114, t115, t116⟩, A70, H⟩ := H
 replace H : ((rat_wide_zero.f t114 t115 t116).bind fun t118 => (if t118 = true then ((rat_zero.f).bind fun bt119 => (some (bt119.1, bt119.2.1, bt119.2.2))) else ((bits_Rem64.f t115 t116 t107).bind fun t122 => ((rat_gcd.f k (([t122, t107] : List Int))).bind fun t126 => ((rat_wide_over.f t114 t115 t116 t126).bind fun bt127 => (if (wrap64 (t126)) = 0 then (none) else ((rat_times.f (wrap64 (Int.tdiv a0_1 (wrap64 (t107)))) (wrap64 (Int.tdiv a1_1 (wrap64 (t126))))).bind fun bt130 => ((rat_made.f k bt127.1 bt127.2.1 bt127.2.2 bt130.1 bt130.2.1 bt130.2.2).bind fun bt133 => (some (bt133.1, bt133.2.1, bt133.2.2)))))))))) = some (r1, r2, r3) := H
 have A7 := aM A70; clear A70; replace H := Option.bind_eq_some_iff.mp H
 obtain ⟨t118, A80, H⟩ := H
 replace H : (if t118 = true then ((rat_zero.f).bind fun bt119 => (some (bt119.1, bt119.2.1, bt119.2.2))) else ((bits_Rem64.f t115 t116 t107).bind fun t122 => ((rat_gcd.f k (([t122, t107] : List Int))).bind fun t126 => ((rat_wide_over.f t114 t115 t116 t126).bind fun bt127 => (if (wrap64 (t126)) = 0 then (none) else ((rat_times.f (wrap64 (Int.tdiv a0_1 (wrap64 (t107)))) (wrap64 (Int.tdiv a1_1 (wrap64 (t126))))).bind fun bt130 => ((rat_made.f k bt127.1 bt127.2.1 bt127.2.2 bt130.1 bt130.2.1 bt130.2.2).bind fun bt133 => (some (bt133.1, bt133.2.1, bt133.2.2))))))))) = some (r1, r2, r3) := H
 have A8 := aM A80; clear A80
 by_cases c9 : t118 = true
 ·subst c9
  have H1 : ((rat_zero.f).bind fun bt119 => (some (bt119.1, bt119.2.1, bt119.2.2))) = some (r1, r2, r3) := by rw [if_pos rfl] at H; exact H
  clear H; have H := H1; clear H1; replace H := Option.bind_eq_some_iff.mp H
  obtain ⟨⟨t119, t120, t121⟩, A100, H⟩ := H
  replace H : (some (t119, t120, t121)) = some (r1, r2, r3) := H
  have A10 := aM A100; clear A100
  simp only [Option.some.injEq, Prod.mk.injEq] at H
  obtain ⟨rfl, rfl, rfl⟩ := H
  go_enter Try.func42, Try.ntmps42
  try go_wp2_with (first | ((with_reducible refine gate_dst (N := 2) rfl ?_); refine bE (N := 2) (cs := #[.int .i64 a0_0, .int .i64 a0_1]) (t := 43) ?_; intro gb101 hg w11 hbox hb; have BK101 := aM (hbox); have GW101 := gE hg HB; have GE101 := gE hg HB; replace HB := sB HB hb; clear hb hbox hg) | ((with_reducible refine gate_dst (N := 3) rfl ?_); refine bE (N := 3) (cs := #[.int .i64 a1_0, .int .i64 a1_1]) (t := 43) ?_; intro gb102 hg w12 hbox hb; have BK102 := aM (hbox); have GW102 := gE hg HB; have GE102 := gE hg HB; have NB101_102 := nL hg BK101; replace BK101 := bB BK101 hb; replace HB := sB HB hb; clear hb hbox hg) | ((with_reducible refine gate_dst (N := 4) rfl ?_); refine bE (N := 4) (cs := #[.int .i64 0, .int .i64 0]) (t := 43) ?_; intro gb103 hg w13 hbox hb; have BK103 := aM (hbox); have GW103 := gE hg HB; have GE103 := gE hg HB; have NB101_103 := nL hg BK101; have NB102_103 := nL hg BK102; replace BK101 := bB BK101 hb; replace BK102 := bB BK102 hb; replace HB := sB HB hb; clear hb hbox hg; have hnb14 := NB101_102.out; have hnc14 := NB101_102.out.symm; have hnb15 := NB101_103.out; have hnc15 := NB101_103.out.symm; obtain ⟨hcz16_0, hcz16_1, hfz16_0, hfz16_1⟩ := cZ2 BK101; have hnb17 := NB102_103.out; have hnc17 := NB102_103.out.symm; obtain ⟨hcz18_0, hcz18_1, hfz18_0, hfz18_1⟩ := cZ2 BK102) | ((with_reducible refine gate_dst (N := 15) rfl ?_); refine Kd.R_lit (Kd.int .u64) _ 26 ?hg (N := 15) ?hd (xs := ([IntKind.u64.wrap (a0_1), IntKind.u64.wrap (a1_1)] : List Int)) (inner := [.int .u64 (IntKind.u64.wrap (a0_1)), .int .u64 (IntKind.u64.wrap (a1_1))]) (ok := fun _ => True) (okp := fun _ => True) ?hr ?hp (fun _ hk => hk) trivial (Below.refl _ _) (Nat.le_refl _) (by simp) ?_; (case hd => rfl); (case hg => rfl); (case hr => first | (go_simp; done) | (go_simp; rfl)); (case hp => exact (Reps.one (show Kd.M (Kd.int .u64) _ _ _ (IntKind.u64.wrap (a0_1)) [.int .u64 (IntKind.u64.wrap (a0_1))] from rfl) (Reps.one (show Kd.M (Kd.int .u64) _ _ _ (IntKind.u64.wrap (a1_1)) [.int .u64 (IntKind.u64.wrap (a1_1))] from rfl) (Reps.none _ _)))); intro v105 w19 ho20 hb hg_ hnew_; clear hg_ hnew_; (first | rw [← Ny104.out] at ho20 | (simp only [Int.reduceToNat] at ho20; rw [← Ny104.out] at ho20)); have HO106 := rL (n := 0) ho20 HB; replace BK101 := bB BK101 hb; replace BK102 := bB BK102 hb; replace BK103 := bB BK103 hb; replace HB := sB HB hb; clear hb ho20; obtain ⟨Ao21, co21, eo21⟩ := Kd.R_slice HO106.out; subst eo21) | ((with_reducible refine gate_callee (f := 63) rfl ?_); refine gL (some 16) Try.func63 #[.slice Ao21 y104.length co21] ?_; (with_reducible refine (rat_gcd.calls k _ _ y104 t107 _ ?side1 ?side2 A3.out).mono ?_); (case side1 => exact rC HO106); (case side2 => exact rN HO106); rintro e w' ⟨rfl, ⟨nd, rfl⟩⟩; refine ⟨_, rfl, ?_⟩; (try (rw [drewN_self w19]; generalize hq_ : World.drewN w19 _ = w19; have n0_ : Aside0 (Kd.R (Kd.int .u64) 26 w19 w.heap.size (fun _ => True) (.slice Ao21 y104.length co21) y104) := ⟨by rw [← hq_]; exact (rD HO106)⟩; have n1_ : Aside0 (w19.heap[gb101]? = some (.cells #[.int .i64 a0_0, .int .i64 a0_1] 43 (0, 0))) := ⟨by rw [← hq_]; exact (bD BK101)⟩; have n2_ : Aside0 (w19.heap[gb102]? = some (.cells #[.int .i64 a1_0, .int .i64 a1_1] 43 (0, 0))) := ⟨by rw [← hq_]; exact (bD BK102)⟩; have n3_ : Aside0 (w19.heap[gb103]? = some (.cells #[.int .i64 0, .int .i64 0] 43 (0, 0))) := ⟨by rw [← hq_]; exact (bD BK103)⟩; have n4_ : Aside0 (Below w.heap.size w w19) := ⟨by rw [← hq_]; exact (sD HB)⟩; clear HO106 BK101 BK102 BK103 HB hq_; have HO106 := n0_; have BK101 := n1_; have BK102 := n2_; have BK103 := n3_; have HB := n4_; clear n0_ n1_ n2_ n3_ n4_))))
  replace HO106 := aM (Kd.R_drew HO106.out); replace BK101 := aM (blk_drew BK101.out); replace BK102 := aM (blk_drew BK102.out); replace BK103 := aM (blk_drew BK103.out); replace HB := aM (below_drew1 HB.out)
  refine start_ (n := 19) (S := fun w' => w'.cell? ⟨gb101, 0, none⟩ = some (.int .i64 a0_0) ∧ w'.cell? ⟨gb101, 1, none⟩ = some (.int .i64 a0_1) ∧ w'.cell? ⟨gb102, 0, none⟩ = some (.int .i64 a1_0) ∧ w'.cell? ⟨gb102, 1, none⟩ = some (.int .i64 a1_1)) (ds := []) #[false, false, false, false, false, false, false, false, false, false, false, false, false, false, false, false, false, false, false] (by kernel_rfl) rfl rfl ⟨cE BK101 0, cE BK101 1, cE BK102 0, cE BK102 1⟩ (fun hHeld => ?_); refine with_tabW rat_Add.tab2 rat_Add.bits2 (fun HT_ HW_ => ?_)
  generalize w19.drew = w22 at HO106 BK101 BK102 BK103 HB hHeld ⊢
  refine pX (i := 0) (N := some 17) rfl rfl HT_ ?_
  refine pX (i := 2) (N := some 19) rfl rfl HT_ ?_
  refine pX (i := 4) (N := some 21) rfl rfl HT_ ?_
  refine pX (i := 5) (N := some 22) rfl rfl HT_ ?_
  refine pX (i := 8) (N := some 25) rfl rfl HT_ ?_
  refine pX (i := 10) (N := some 27) rfl rfl HT_ ?_
  refine pX (i := 12) (N := some 29) rfl rfl HT_ ?_
  refine pX (i := 13) (N := some 30) rfl rfl HT_ ?_
  refine tX (i := 1) (N := some 18) rfl rfl HT_ HW_ hHeld (Or.inl ⟨by rfl, by rintro w' ⟨s0, s1, s2, s3⟩; go_simp; with_reducible rfl⟩) ?_
  refine tX (i := 3) (N := some 20) rfl rfl HT_ HW_ hHeld (Or.inl ⟨by rfl, by rintro w' ⟨s0, s1, s2, s3⟩; go_simp; with_reducible rfl⟩) ?_
  refine pX (i := 6) (N := some 23) rfl rfl HT_ ?_
  refine tX (i := 9) (N := some 26) rfl rfl HT_ HW_ hHeld (Or.inl ⟨by rfl, by rintro w' ⟨s0, s1, s2, s3⟩; go_simp; with_reducible rfl⟩) ?_
  refine tX (i := 11) (N := some 28) rfl rfl HT_ HW_ hHeld (Or.inl ⟨by rfl, by rintro w' ⟨s0, s1, s2, s3⟩; go_simp; with_reducible rfl⟩) ?_
  refine pX (i := 14) (N := some 31) rfl rfl HT_ ?_
  refine join_ (σ := Nat) 1 #[true, true, true, true, true, true, true, true, true, true, true, true, true, true, true, true, true, true, false] (fun s_ => [(24, .agg #[.bool t108, .int .u64 t109, .int .u64 t110]), (32, .agg #[.bool t111, .int .u64 t112, .int .u64 t113]), (33, .agg #[.bool t114, .int .u64 t115, .int .u64 t116]), (7, .pointer (some ⟨s_, 0, none⟩))]) (fun s_ w' => (w'.cell? ⟨gb101, 0, none⟩ = some (.int .i64 a0_0) ∧ w'.cell? ⟨gb101, 1, none⟩ = some (.int .i64 a0_1) ∧ w'.cell? ⟨gb102, 0, none⟩ = some (.int .i64 a1_0) ∧ w'.cell? ⟨gb102, 1, none⟩ = some (.int .i64 a1_1)) ∧ (Kd.R (Kd.int .u64) 26 w' w.heap.size (fun _ => True) (.slice Ao21 y104.length co21) y104) ∧ (w'.heap[gb101]? = some (.cells #[.int .i64 a0_0, .int .i64 a0_1] 43 (0, 0))) ∧ (w'.heap[gb102]? = some (.cells #[.int .i64 a1_0, .int .i64 a1_1] 43 (0, 0))) ∧ (w'.heap[gb103]? = some (.cells #[.int .i64 0, .int .i64 0] 43 (0, 0))) ∧ (w'.heap[s_]? = some (.cells #[.bool false, .int .u64 0, .int .u64 0] 100 (0, 0))) ∧ (w.heap.size ≤ s_) ∧ (w.heap.size ≤ s_) ∧ (gb101 ≠ s_) ∧ (gb102 ≠ s_) ∧ (gb103 ≠ s_) ∧ (Below w.heap.size w w')) ?_ ?_
  rotate_left
  ·intro hCont
   refine two2 (i := 7) (j := 17) (Ni := some 24) (Nj := some 7) HT_ rfl rfl rfl rfl (fun K hK => ?_) (fun K hK => ?_)
   ·refine gS Try.func40 #[.int .i64 a0_0, .int .i64 (wrap64 (Int.tdiv a1_1 (wrap64 (t107))))] ?_
    with_reducible refine (rat_times.calls a0_0 (wrap64 (Int.tdiv a1_1 (wrap64 (t107)))) t108 t109 t110 _ A5.out).mono ?_
    rintro e w23 ⟨rfl, hb⟩
    refine ⟨_, rfl, ?_⟩
    replace HO106 := rB HO106 hb; replace BK101 := bB BK101 hb; replace BK102 := bB BK102 hb; replace BK103 := bB BK103 hb; replace HB := sB HB hb; (try clear hb); (try clear hb2); (try clear hk); (try clear hi)
    refine hK.out _ _ ⟨cE BK101 0, cE BK101 1, cE BK102 0, cE BK102 1⟩ (fun hHeld => ?_)
    clear hK K
    refine nX (some 24) ?_
    refine two2 (i := 15) (j := 17) (Ni := some 32) (Nj := some 7) HT_ rfl rfl rfl rfl (fun K hK => ?_) (fun K hK => ?_)
    ·refine gS Try.func40 #[.int .i64 a1_0, .int .i64 (wrap64 (Int.tdiv a0_1 (wrap64 (t107))))] ?_
     with_reducible refine (rat_times.calls a1_0 (wrap64 (Int.tdiv a0_1 (wrap64 (t107)))) t111 t112 t113 _ A6.out).mono ?_
     rintro e w24 ⟨rfl, hb⟩
     refine ⟨_, rfl, ?_⟩
     replace HO106 := rB HO106 hb; replace BK101 := bB BK101 hb; replace BK102 := bB BK102 hb; replace BK103 := bB BK103 hb; replace HB := sB HB hb; (try clear hb); (try clear hb2); (try clear hk); (try clear hi)
     refine hK.out _ _ ⟨cE BK101 0, cE BK101 1, cE BK102 0, cE BK102 1⟩ (fun hHeld => ?_)
     clear hK K
     refine nX (some 32) ?_
     refine two2 (i := 16) (j := 17) (Ni := some 33) (Nj := some 7) HT_ rfl rfl rfl rfl (fun K hK => ?_) (fun K hK => ?_)
     ·refine gS Try.func41 #[.agg #[.bool t108, .int .u64 t109, .int .u64 t110], .agg #[.bool t111, .int .u64 t112, .int .u64 t113]] ?_
      with_reducible refine (rat_wide_plus.calls t108 t109 t110 t111 t112 t113 t114 t115 t116 _ A7.out).mono ?_
      rintro e w25 ⟨rfl, hb⟩
      refine ⟨_, rfl, ?_⟩
      replace HO106 := rB HO106 hb; replace BK101 := bB BK101 hb; replace BK102 := bB BK102 hb; replace BK103 := bB BK103 hb; replace HB := sB HB hb; (try clear hb); (try clear hb2); (try clear hk); (try clear hi)
      refine hK.out _ _ ⟨cE BK101 0, cE BK101 1, cE BK102 0, cE BK102 1⟩ (fun hHeld => ?_)
      clear hK K
      refine nX (some 33) ?_
      refine oX (i := 17) (N := some 7) rfl rfl HT_ (fun K hK => ?_)
      refine bS (N := 7) (cs := #[.bool false, .int .u64 0, .int .u64 0]) (t := 100) ?_
      intro gb117 hg w26 hbox hb
      have BK117 := aM (hbox); have GW117 := gE hg HB; have GE117 := gE hg HB; have NB101_117 := nL hg BK101; have NB102_117 := nL hg BK102; have NB103_117 := nL hg BK103; replace HO106 := rB HO106 hb; replace BK101 := bB BK101 hb; replace BK102 := bB BK102 hb; replace BK103 := bB BK103 hb; replace HB := sB HB hb; clear hb hbox hg
      refine hK.out _ _ ⟨cE BK101 0, cE BK101 1, cE BK102 0, cE BK102 1⟩ (fun hHeld => ?_)
      clear hK K
      refine nX (some 7) ?_
      exact nP (hCont (gb117) _ ⟨hHeld, rD HO106, bD BK101, bD BK102, bD BK103, bD BK117, GW117.out, GE117.out, NB101_117.out, NB102_117.out, NB103_117.out, sD HB⟩)
     refine bS (N := 7) (cs := #[.bool false, .int .u64 0, .int .u64 0]) (t := 100) ?_
     intro gb117 hg w25 hbox hb
     have BK117 := aM (hbox); have GW117 := gE hg HB; have GE117 := gE hg HB; have NB101_117 := nL hg BK101; have NB102_117 := nL hg BK102; have NB103_117 := nL hg BK103; replace HO106 := rB HO106 hb; replace BK101 := bB BK101 hb; replace BK102 := bB BK102 hb; replace BK103 := bB BK103 hb; replace HB := sB HB hb; clear hb hbox hg
     refine hK.out _ _ ⟨cE BK101 0, cE BK101 1, cE BK102 0, cE BK102 1⟩ (fun hHeld => ?_)
     clear hK K
     refine nX (some 7) ?_
     refine oX (i := 16) (N := some 33) rfl rfl HT_ (fun K hK => ?_)
     refine gS Try.func41 #[.agg #[.bool t108, .int .u64 t109, .int .u64 t110], .agg #[.bool t111, .int .u64 t112, .int .u64 t113]] ?_
     with_reducible refine (rat_wide_plus.calls t108 t109 t110 t111 t112 t113 t114 t115 t116 _ A7.out).mono ?_
     rintro e w26 ⟨rfl, hb⟩
     refine ⟨_, rfl, ?_⟩
     replace HO106 := rB HO106 hb; replace BK101 := bB BK101 hb; replace BK102 := bB BK102 hb; replace BK103 := bB BK103 hb; replace BK117 := bB BK117 hb; replace HB := sB HB hb; (try clear hb); (try clear hb2); (try clear hk); (try clear hi)
     refine hK.out _ _ ⟨cE BK101 0, cE BK101 1, cE BK102 0, cE BK102 1⟩ (fun hHeld => ?_)
     clear hK K
     refine nX (some 33) ?_
     exact nP (hCont (gb117) _ ⟨hHeld, rD HO106, bD BK101, bD BK102, bD BK103, bD BK117, GW117.out, GE117.out, NB101_117.out, NB102_117.out, NB103_117.out, sD HB⟩)
    refine bS (N := 7) (cs := #[.bool false, .int .u64 0, .int .u64 0]) (t := 100) ?_
    intro gb117 hg w24 hbox hb
    have BK117 := aM (hbox); have GW117 := gE hg HB; have GE117 := gE hg HB; have NB101_117 := nL hg BK101; have NB102_117 := nL hg BK102; have NB103_117 := nL hg BK103; replace HO106 := rB HO106 hb; replace BK101 := bB BK101 hb; replace BK102 := bB BK102 hb; replace BK103 := bB BK103 hb; replace HB := sB HB hb; clear hb hbox hg
    refine hK.out _ _ ⟨cE BK101 0, cE BK101 1, cE BK102 0, cE BK102 1⟩ (fun hHeld => ?_)
    clear hK K
    refine nX (some 7) ?_
    refine oX (i := 15) (N := some 32) rfl rfl HT_ (fun K hK => ?_)
    refine gS Try.func40 #[.int .i64 a1_0, .int .i64 (wrap64 (Int.tdiv a0_1 (wrap64 (t107))))] ?_
    with_reducible refine (rat_times.calls a1_0 (wrap64 (Int.tdiv a0_1 (wrap64 (t107)))) t111 t112 t113 _ A6.out).mono ?_
    rintro e w25 ⟨rfl, hb⟩
    refine ⟨_, rfl, ?_⟩
    replace HO106 := rB HO106 hb; replace BK101 := bB BK101 hb; replace BK102 := bB BK102 hb; replace BK103 := bB BK103 hb; replace BK117 := bB BK117 hb; replace HB := sB HB hb; (try clear hb); (try clear hb2); (try clear hk); (try clear hi)
    refine hK.out _ _ ⟨cE BK101 0, cE BK101 1, cE BK102 0, cE BK102 1⟩ (fun hHeld => ?_)
    clear hK K
    refine nX (some 32) ?_
    refine oX (i := 16) (N := some 33) rfl rfl HT_ (fun K hK => ?_)
    refine gS Try.func41 #[.agg #[.bool t108, .int .u64 t109, .int .u64 t110], .agg #[.bool t111, .int .u64 t112, .int .u64 t113]] ?_
    with_reducible refine (rat_wide_plus.calls t108 t109 t110 t111 t112 t113 t114 t115 t116 _ A7.out).mono ?_
    rintro e w26 ⟨rfl, hb⟩
    refine ⟨_, rfl, ?_⟩
    replace HO106 := rB HO106 hb; replace BK101 := bB BK101 hb; replace BK102 := bB BK102 hb; replace BK103 := bB BK103 hb; replace BK117 := bB BK117 hb; replace HB := sB HB hb; (try clear hb); (try clear hb2); (try clear hk); (try clear hi)
    refine hK.out _ _ ⟨cE BK101 0, cE BK101 1, cE BK102 0, cE BK102 1⟩ (fun hHeld => ?_)
    clear hK K
    refine nX (some 33) ?_
    exact nP (hCont (gb117) _ ⟨hHeld, rD HO106, bD BK101, bD BK102, bD BK103, bD BK117, GW117.out, GE117.out, NB101_117.out, NB102_117.out, NB103_117.out, sD HB⟩)
   refine bS (N := 7) (cs := #[.bool false, .int .u64 0, .int .u64 0]) (t := 100) ?_
   intro gb117 hg w23 hbox hb
   have BK117 := aM (hbox); have GW117 := gE hg HB; have GE117 := gE hg HB; have NB101_117 := nL hg BK101; have NB102_117 := nL hg BK102; have NB103_117 := nL hg BK103; replace HO106 := rB HO106 hb; replace BK101 := bB BK101 hb; replace BK102 := bB BK102 hb; replace BK103 := bB BK103 hb; replace HB := sB HB hb; clear hb hbox hg
   refine hK.out _ _ ⟨cE BK101 0, cE BK101 1, cE BK102 0, cE BK102 1⟩ (fun hHeld => ?_)
   clear hK K
   refine nX (some 7) ?_
   refine oX (i := 7) (N := some 24) rfl rfl HT_ (fun K hK => ?_)
   refine gS Try.func40 #[.int .i64 a0_0, .int .i64 (wrap64 (Int.tdiv a1_1 (wrap64 (t107))))] ?_
   with_reducible refine (rat_times.calls a0_0 (wrap64 (Int.tdiv a1_1 (wrap64 (t107)))) t108 t109 t110 _ A5.out).mono ?_
   rintro e w24 ⟨rfl, hb⟩
   refine ⟨_, rfl, ?_⟩
   replace HO106 := rB HO106 hb; replace BK101 := bB BK101 hb; replace BK102 := bB BK102 hb; replace BK103 := bB BK103 hb; replace BK117 := bB BK117 hb; replace HB := sB HB hb; (try clear hb); (try clear hb2); (try clear hk); (try clear hi)
   refine hK.out _ _ ⟨cE BK101 0, cE BK101 1, cE BK102 0, cE BK102 1⟩ (fun hHeld => ?_)
   clear hK K
   refine nX (some 24) ?_
   refine oX (i := 15) (N := some 32) rfl rfl HT_ (fun K hK => ?_)
   refine gS Try.func40 #[.int .i64 a1_0, .int .i64 (wrap64 (Int.tdiv a0_1 (wrap64 (t107))))] ?_
   with_reducible refine (rat_times.calls a1_0 (wrap64 (Int.tdiv a0_1 (wrap64 (t107)))) t111 t112 t113 _ A6.out).mono ?_
   rintro e w25 ⟨rfl, hb⟩
   refine ⟨_, rfl, ?_⟩
   replace HO106 := rB HO106 hb; replace BK101 := bB BK101 hb; replace BK102 := bB BK102 hb; replace BK103 := bB BK103 hb; replace BK117 := bB BK117 hb; replace HB := sB HB hb; (try clear hb); (try clear hb2); (try clear hk); (try clear hi)
   refine hK.out _ _ ⟨cE BK101 0, cE BK101 1, cE BK102 0, cE BK102 1⟩ (fun hHeld => ?_)
   clear hK K
   refine nX (some 32) ?_
   refine oX (i := 16) (N := some 33) rfl rfl HT_ (fun K hK => ?_)
   refine gS Try.func41 #[.agg #[.bool t108, .int .u64 t109, .int .u64 t110], .agg #[.bool t111, .int .u64 t112, .int .u64 t113]] ?_
   with_reducible refine (rat_wide_plus.calls t108 t109 t110 t111 t112 t113 t114 t115 t116 _ A7.out).mono ?_
   rintro e w26 ⟨rfl, hb⟩
   refine ⟨_, rfl, ?_⟩
   replace HO106 := rB HO106 hb; replace BK101 := bB BK101 hb; replace BK102 := bB BK102 hb; replace BK103 := bB BK103 hb; replace BK117 := bB BK117 hb; replace HB := sB HB hb; (try clear hb); (try clear hb2); (try clear hk); (try clear hi)
   refine hK.out _ _ ⟨cE BK101 0, cE BK101 1, cE BK102 0, cE BK102 1⟩ (fun hHeld => ?_)
   clear hK K
   refine nX (some 33) ?_
   exact nP (hCont (gb117) _ ⟨hHeld, rD HO106, bD BK101, bD BK102, bD BK103, bD BK117, GW117.out, GE117.out, NB101_117.out, NB102_117.out, NB103_117.out, sD HB⟩)
  rintro gb117 w27 ⟨hS_, h0_, h1_, h2_, h3_, h4_, h5_, h6_, h7_, h9_, h11_, h13_⟩
  (try dsimp only at h0_ h1_ h2_ h3_ h4_ h5_ h6_ h7_ h9_ h11_ h13_)
  have BK117 := aM h4_; have GW117 := aM h5_; have GE117 := aM h6_; have NB101_117 := aM h7_; have NB102_117 := aM h9_; have NB103_117 := aM h11_; replace HO106 := aM h0_; replace BK101 := aM h1_; replace BK102 := aM h2_; replace BK103 := aM h3_; replace HB := aM h13_; clear h0_ h1_ h2_ h3_ h4_ h5_ h6_ h7_ h9_ h11_ h13_
  (try dsimp only at hS_); have hHeld := hS_; clear hS_
  refine nQ ?_
  refine oX (i := 18) (N := none) rfl rfl HT_ (fun K hK => ?_)
  have hs28 : w27.cell? ⟨gb117, 0, none⟩ = some (.bool false) := (blk_cell BK117.out 0).trans rfl
  have hfs28 := blk_frozen BK117.out 0; have hns28_0 := NB101_117.out; have hns28_1 := NB102_117.out; have hns28_2 := NB103_117.out; have hms28_0 := NB101_117.out.symm; have hms28_1 := NB102_117.out.symm; have hms28_2 := NB103_117.out.symm
  have hs29 : w27.cell? ⟨gb117, 1, none⟩ = some (.int .u64 0) := (blk_cell BK117.out 1).trans rfl
  have hfs29 := blk_frozen BK117.out 1; have hns29_0 := NB101_117.out; have hns29_1 := NB102_117.out; have hns29_2 := NB103_117.out; have hms29_0 := NB101_117.out.symm; have hms29_1 := NB102_117.out.symm; have hms29_2 := NB103_117.out.symm
  have hs30 : w27.cell? ⟨gb117, 2, none⟩ = some (.int .u64 0) := (blk_cell BK117.out 2).trans rfl
  have hfs30 := blk_frozen BK117.out 2; have hns30_0 := NB101_117.out; have hns30_1 := NB102_117.out; have hns30_2 := NB103_117.out; have hms30_0 := NB101_117.out.symm; have hms30_1 := NB102_117.out.symm; have hms30_2 := NB103_117.out.symm
  refine skip_ (w1 := ?_) (by rfl) rfl ?_ ?_
  rotate_left
  ·go_simp
   rfl
  refine hK.out _ _ ⟨((cell_far (p := ⟨gb117, _, none⟩) NB101_117.out _).trans (((cell_far (p := ⟨gb117, _, none⟩) NB101_117.out _).trans (((cell_far (p := ⟨gb117, _, none⟩) NB101_117.out _).trans (hHeld.1)))))), ((cell_far (p := ⟨gb117, _, none⟩) NB101_117.out _).trans (((cell_far (p := ⟨gb117, _, none⟩) NB101_117.out _).trans (((cell_far (p := ⟨gb117, _, none⟩) NB101_117.out _).trans (hHeld.2.1)))))), ((cell_far (p := ⟨gb117, _, none⟩) NB102_117.out _).trans (((cell_far (p := ⟨gb117, _, none⟩) NB102_117.out _).trans (((cell_far (p := ⟨gb117, _, none⟩) NB102_117.out _).trans (hHeld.2.2.1)))))), ((cell_far (p := ⟨gb117, _, none⟩) NB102_117.out _).trans (((cell_far (p := ⟨gb117, _, none⟩) NB102_117.out _).trans (((cell_far (p := ⟨gb117, _, none⟩) NB102_117.out _).trans (hHeld.2.2.2))))))⟩ (fun hHeld => ?_)
  clear hK K
  refine done_ (done_of HT_.out (by kernel_rfl)) ?_
  have hnb31 := NB101_117.out.symm; have hnc31 := NB101_117.out; have hnb32 := NB102_117.out.symm; have hnc32 := NB102_117.out; have hnb33 := NB103_117.out.symm; have hnc33 := NB103_117.out; obtain ⟨hcz34_0, hcz34_1, hcz34_2, hfz34_0, hfz34_1, hfz34_2⟩ := cZ3 BK117
  try go_wp2_with (first | ((with_reducible refine gate_callee (f := 64) rfl ?_); refine gL (some 35) Try.func64 #[.agg #[.bool t114, .int .u64 t115, .int .u64 t116]] ?_; (with_reducible refine (rat_wide_zero.calls t114 t115 t116 true _ A8.out).mono ?_); rintro e w35 ⟨rfl, hb⟩; refine ⟨_, rfl, ?_⟩; replace HO106 := aM (Kd.R_below (rD ⟨(Kd.R_mono (Kd.R_far (p := ⟨gb117, 2, none⟩) (Kd.R_far (p := ⟨gb117, 1, none⟩) (Kd.R_far (p := ⟨gb117, 0, none⟩) (Kd.R_types HO106.out BK117.out (by decide)) (fun _ hk => hk.2) (.bool t114)) (fun _ hk => hk.2) (.int .u64 t115)) (fun _ hk => hk.2) (.int .u64 t116)) (fun _ h_ => h_.1))⟩) hb); replace BK101 := aM (blk_below (g := gb101) (o := .cells #[.int .i64 a0_0, .int .i64 a0_1] 43 (0, 0)) (bF BK101) hb); replace BK102 := aM (blk_below (g := gb102) (o := .cells #[.int .i64 a1_0, .int .i64 a1_1] 43 (0, 0)) (bF BK102) hb); replace BK103 := aM (blk_below (g := gb103) (o := .cells #[.int .i64 0, .int .i64 0] 43 (0, 0)) (bF BK103) hb); replace HB := sB HB hb; replace BK117 := aM (blk_below (g := gb117) (o := .cells #[.bool t114, .int .u64 t115, .int .u64 t116] 100 (0, 0)) (by refine bM ?_; refine blk_put (cs := #[.bool t114, .int .u64 t115, .int .u64 0]) ?_ 2 _ rfl; refine bM ?_; refine blk_put (cs := #[.bool t114, .int .u64 0, .int .u64 0]) ?_ 1 _ rfl; refine bM ?_; refine blk_put (cs := #[.bool false, .int .u64 0, .int .u64 0]) ?_ 0 _ rfl; exact bD BK117) hb); (try clear hb)) | ((with_reducible refine gate_callee (f := 65) rfl ?_); refine gL (some 36) Try.func65 #[] ?_; (with_reducible refine (rat_zero.calls  t119 t120 t121 _ A10.out).mono ?_); rintro e w36 ⟨rfl, hb⟩; refine ⟨_, rfl, ?_⟩; replace HO106 := rB HO106 hb; replace BK101 := bB BK101 hb; replace BK102 := bB BK102 hb; replace BK103 := bB BK103 hb; replace BK117 := bB BK117 hb; replace HB := sB HB hb; (try clear hb); obtain ⟨hcz37_0, hcz37_1, hfz37_0, hfz37_1⟩ := cZ2 BK103))
  refine bodyPost_ret (results_ct rfl _ _ gb103 43 #[.int .i64 t119, .int .i64 t120] (0, 0) _ rfl (by refine bM ?_; refine blk_put (cs := #[.int .i64 t119, .int .i64 0]) ?_ 1 _ rfl; refine bM ?_; refine blk_put (cs := #[.int .i64 0, .int .i64 0]) ?_ 0 _ rfl; exact bD BK103) Try.underlying43 rfl (by kernel_rfl)) rfl ?_
  exact ⟨by first | rfl | (simp [errW_none, errW_some] <;> rfl) | (simp [*, errW_none, errW_some] <;> rfl), sD HB⟩
 replace c9 := Bool.eq_false_iff.mpr c9
 subst c9
 have H1 : ((bits_Rem64.f t115 t116 t107).bind fun t122 => ((rat_gcd.f k (([t122, t107] : List Int))).bind fun t126 => ((rat_wide_over.f t114 t115 t116 t126).bind fun bt127 => (if (wrap64 (t126)) = 0 then (none) else ((rat_times.f (wrap64 (Int.tdiv a0_1 (wrap64 (t107)))) (wrap64 (Int.tdiv a1_1 (wrap64 (t126))))).bind fun bt130 => ((rat_made.f k bt127.1 bt127.2.1 bt127.2.2 bt130.1 bt130.2.1 bt130.2.2).bind fun bt133 => (some (bt133.1, bt133.2.1, bt133.2.2)))))))) = some (r1, r2, r3) := by rw [if_neg (show ¬ (false = true) by decide)] at H; exact H
 clear H; have H := H1; clear H1; replace H := Option.bind_eq_some_iff.mp H
 obtain ⟨t122, A380, H⟩ := H
 replace H : ((rat_gcd.f k (([t122, t107] : List Int))).bind fun t126 => ((rat_wide_over.f t114 t115 t116 t126).bind fun bt127 => (if (wrap64 (t126)) = 0 then (none) else ((rat_times.f (wrap64 (Int.tdiv a0_1 (wrap64 (t107)))) (wrap64 (Int.tdiv a1_1 (wrap64 (t126))))).bind fun bt130 => ((rat_made.f k bt127.1 bt127.2.1 bt127.2.2 bt130.1 bt130.2.1 bt130.2.2).bind fun bt133 => (some (bt133.1, bt133.2.1, bt133.2.2))))))) = some (r1, r2, r3) := H
 have A38 := aM A380; clear A380
 obtain ⟨y123, hy123⟩ : ∃ y_ : List Int, y_ = (([t122, t107] : List Int)) := ⟨_, rfl⟩
 replace H : ((rat_gcd.f k y123).bind fun t126 => ((rat_wide_over.f t114 t115 t116 t126).bind fun bt127 => (if (wrap64 (t126)) = 0 then (none) else ((rat_times.f (wrap64 (Int.tdiv a0_1 (wrap64 (t107)))) (wrap64 (Int.tdiv a1_1 (wrap64 (t126))))).bind fun bt130 => ((rat_made.f k bt127.1 bt127.2.1 bt127.2.2 bt130.1 bt130.2.1 bt130.2.2).bind fun bt133 => (some (bt133.1, bt133.2.1, bt133.2.2))))))) = some (r1, r2, r3) := by first | (rw [hy123]; with_reducible exact H) | (have H2_ := (Option.bind_some _ _).symm.trans H; rw [hy123]; with_reducible exact H2_) | (have H2_ := (Option.bind_some _ _).symm.trans H; with_reducible exact H2_) | with_reducible exact H | (rw [hy123]; exact H) | exact H
 have Ny123 := aM hy123; clear hy123; replace H := Option.bind_eq_some_iff.mp H
 obtain ⟨t126, A390, H⟩ := H
 replace H : ((rat_wide_over.f t114 t115 t116 t126).bind fun bt127 => (if (wrap64 (t126)) = 0 then (none) else ((rat_times.f (wrap64 (Int.tdiv a0_1 (wrap64 (t107)))) (wrap64 (Int.tdiv a1_1 (wrap64 (t126))))).bind fun bt130 => ((rat_made.f k bt127.1 bt127.2.1 bt127.2.2 bt130.1 bt130.2.1 bt130.2.2).bind fun bt133 => (some (bt133.1, bt133.2.1, bt133.2.2)))))) = some (r1, r2, r3) := H
 have A39 := aM A390; clear A390; replace H := Option.bind_eq_some_iff.mp H
 obtain ⟨⟨t127, t128, t129⟩, A400, H⟩ := H
 replace H : (if (wrap64 (t126)) = 0 then (none) else ((rat_times.f (wrap64 (Int.tdiv a0_1 (wrap64 (t107)))) (wrap64 (Int.tdiv a1_1 (wrap64 (t126))))).bind fun bt130 => ((rat_made.f k t127 t128 t129 bt130.1 bt130.2.1 bt130.2.2).bind fun bt133 => (some (bt133.1, bt133.2.1, bt133.2.2))))) = some (r1, r2, r3) := H
 have A40 := aM A400; clear A400
 by_cases c41 : (wrap64 (t126)) = 0
 ·rw [if_pos c41] at H
  exact absurd H (by simp)
 rw [if_neg c41] at H
 have c41b0 : ((wrap64 (t126)) == 0) = false := beq_eq_false_iff_ne.mpr c41
 have c41b1 : ((wrap64 (t126)) != 0) = true := bne_iff_ne.mpr c41
 replace H := Option.bind_eq_some_iff.mp H
 obtain ⟨⟨t130, t131, t132⟩, A420, H⟩ := H
 replace H : ((rat_made.f k t127 t128 t129 t130 t131 t132).bind fun bt133 => (some (bt133.1, bt133.2.1, bt133.2.2))) = some (r1, r2, r3) := H
 have A42 := aM A420; clear A420; replace H := Option.bind_eq_some_iff.mp H
 obtain ⟨⟨t133, t134, t135⟩, A430, H⟩ := H
 replace H : (some (t133, t134, t135)) = some (r1, r2, r3) := H
 have A43 := aM A430; clear A430
 simp only [Option.some.injEq, Prod.mk.injEq] at H
 obtain ⟨rfl, rfl, rfl⟩ := H
 go_enter Try.func42, Try.ntmps42
 try go_wp2_with (first | ((with_reducible refine gate_dst (N := 2) rfl ?_); refine bE (N := 2) (cs := #[.int .i64 a0_0, .int .i64 a0_1]) (t := 43) ?_; intro gb101 hg w44 hbox hb; have BK101 := aM (hbox); have GW101 := gE hg HB; have GE101 := gE hg HB; replace HB := sB HB hb; clear hb hbox hg) | ((with_reducible refine gate_dst (N := 3) rfl ?_); refine bE (N := 3) (cs := #[.int .i64 a1_0, .int .i64 a1_1]) (t := 43) ?_; intro gb102 hg w45 hbox hb; have BK102 := aM (hbox); have GW102 := gE hg HB; have GE102 := gE hg HB; have NB101_102 := nL hg BK101; replace BK101 := bB BK101 hb; replace HB := sB HB hb; clear hb hbox hg) | ((with_reducible refine gate_dst (N := 4) rfl ?_); refine bE (N := 4) (cs := #[.int .i64 0, .int .i64 0]) (t := 43) ?_; intro gb103 hg w46 hbox hb; have BK103 := aM (hbox); have GW103 := gE hg HB; have GE103 := gE hg HB; have NB101_103 := nL hg BK101; have NB102_103 := nL hg BK102; replace BK101 := bB BK101 hb; replace BK102 := bB BK102 hb; replace HB := sB HB hb; clear hb hbox hg; have hnb47 := NB101_102.out; have hnc47 := NB101_102.out.symm; have hnb48 := NB101_103.out; have hnc48 := NB101_103.out.symm; obtain ⟨hcz49_0, hcz49_1, hfz49_0, hfz49_1⟩ := cZ2 BK101; have hnb50 := NB102_103.out; have hnc50 := NB102_103.out.symm; obtain ⟨hcz51_0, hcz51_1, hfz51_0, hfz51_1⟩ := cZ2 BK102) | ((with_reducible refine gate_dst (N := 15) rfl ?_); refine Kd.R_lit (Kd.int .u64) _ 26 ?hg (N := 15) ?hd (xs := ([IntKind.u64.wrap (a0_1), IntKind.u64.wrap (a1_1)] : List Int)) (inner := [.int .u64 (IntKind.u64.wrap (a0_1)), .int .u64 (IntKind.u64.wrap (a1_1))]) (ok := fun _ => True) (okp := fun _ => True) ?hr ?hp (fun _ hk => hk) trivial (Below.refl _ _) (Nat.le_refl _) (by simp) ?_; (case hd => rfl); (case hg => rfl); (case hr => first | (go_simp; done) | (go_simp; rfl)); (case hp => exact (Reps.one (show Kd.M (Kd.int .u64) _ _ _ (IntKind.u64.wrap (a0_1)) [.int .u64 (IntKind.u64.wrap (a0_1))] from rfl) (Reps.one (show Kd.M (Kd.int .u64) _ _ _ (IntKind.u64.wrap (a1_1)) [.int .u64 (IntKind.u64.wrap (a1_1))] from rfl) (Reps.none _ _)))); intro v105 w52 ho53 hb hg_ hnew_; clear hg_ hnew_; (first | rw [← Ny104.out] at ho53 | (simp only [Int.reduceToNat] at ho53; rw [← Ny104.out] at ho53)); have HO106 := rL (n := 0) ho53 HB; replace BK101 := bB BK101 hb; replace BK102 := bB BK102 hb; replace BK103 := bB BK103 hb; replace HB := sB HB hb; clear hb ho53; obtain ⟨Ao54, co54, eo54⟩ := Kd.R_slice HO106.out; subst eo54) | ((with_reducible refine gate_callee (f := 63) rfl ?_); refine gL (some 16) Try.func63 #[.slice Ao54 y104.length co54] ?_; (with_reducible refine (rat_gcd.calls k _ _ y104 t107 _ ?side1 ?side2 A3.out).mono ?_); (case side1 => exact rC HO106); (case side2 => exact rN HO106); rintro e w' ⟨rfl, ⟨nd, rfl⟩⟩; refine ⟨_, rfl, ?_⟩; (try (rw [drewN_self w52]; generalize hq_ : World.drewN w52 _ = w52; have n0_ : Aside0 (Kd.R (Kd.int .u64) 26 w52 w.heap.size (fun _ => True) (.slice Ao54 y104.length co54) y104) := ⟨by rw [← hq_]; exact (rD HO106)⟩; have n1_ : Aside0 (w52.heap[gb101]? = some (.cells #[.int .i64 a0_0, .int .i64 a0_1] 43 (0, 0))) := ⟨by rw [← hq_]; exact (bD BK101)⟩; have n2_ : Aside0 (w52.heap[gb102]? = some (.cells #[.int .i64 a1_0, .int .i64 a1_1] 43 (0, 0))) := ⟨by rw [← hq_]; exact (bD BK102)⟩; have n3_ : Aside0 (w52.heap[gb103]? = some (.cells #[.int .i64 0, .int .i64 0] 43 (0, 0))) := ⟨by rw [← hq_]; exact (bD BK103)⟩; have n4_ : Aside0 (Below w.heap.size w w52) := ⟨by rw [← hq_]; exact (sD HB)⟩; clear HO106 BK101 BK102 BK103 HB hq_; have HO106 := n0_; have BK101 := n1_; have BK102 := n2_; have BK103 := n3_; have HB := n4_; clear n0_ n1_ n2_ n3_ n4_))))
 replace HO106 := aM (Kd.R_drew HO106.out); replace BK101 := aM (blk_drew BK101.out); replace BK102 := aM (blk_drew BK102.out); replace BK103 := aM (blk_drew BK103.out); replace HB := aM (below_drew1 HB.out)
 refine start_ (n := 19) (S := fun w' => w'.cell? ⟨gb101, 0, none⟩ = some (.int .i64 a0_0) ∧ w'.cell? ⟨gb101, 1, none⟩ = some (.int .i64 a0_1) ∧ w'.cell? ⟨gb102, 0, none⟩ = some (.int .i64 a1_0) ∧ w'.cell? ⟨gb102, 1, none⟩ = some (.int .i64 a1_1)) (ds := []) #[false, false, false, false, false, false, false, false, false, false, false, false, false, false, false, false, false, false, false] (by kernel_rfl) rfl rfl ⟨cE BK101 0, cE BK101 1, cE BK102 0, cE BK102 1⟩ (fun hHeld => ?_); refine with_tabW rat_Add.tab2 rat_Add.bits2 (fun HT_ HW_ => ?_)
 generalize w52.drew = w55 at HO106 BK101 BK102 BK103 HB hHeld ⊢
 refine pX (i := 0) (N := some 17) rfl rfl HT_ ?_
 refine pX (i := 2) (N := some 19) rfl rfl HT_ ?_
 refine pX (i := 4) (N := some 21) rfl rfl HT_ ?_
 refine pX (i := 5) (N := some 22) rfl rfl HT_ ?_
 refine pX (i := 8) (N := some 25) rfl rfl HT_ ?_
 refine pX (i := 10) (N := some 27) rfl rfl HT_ ?_
 refine pX (i := 12) (N := some 29) rfl rfl HT_ ?_
 refine pX (i := 13) (N := some 30) rfl rfl HT_ ?_
 refine tX (i := 1) (N := some 18) rfl rfl HT_ HW_ hHeld (Or.inl ⟨by rfl, by rintro w' ⟨s0, s1, s2, s3⟩; go_simp; with_reducible rfl⟩) ?_
 refine tX (i := 3) (N := some 20) rfl rfl HT_ HW_ hHeld (Or.inl ⟨by rfl, by rintro w' ⟨s0, s1, s2, s3⟩; go_simp; with_reducible rfl⟩) ?_
 refine pX (i := 6) (N := some 23) rfl rfl HT_ ?_
 refine tX (i := 9) (N := some 26) rfl rfl HT_ HW_ hHeld (Or.inl ⟨by rfl, by rintro w' ⟨s0, s1, s2, s3⟩; go_simp; with_reducible rfl⟩) ?_
 refine tX (i := 11) (N := some 28) rfl rfl HT_ HW_ hHeld (Or.inl ⟨by rfl, by rintro w' ⟨s0, s1, s2, s3⟩; go_simp; with_reducible rfl⟩) ?_
 refine pX (i := 14) (N := some 31) rfl rfl HT_ ?_
 refine join_ (σ := Nat) 1 #[true, true, true, true, true, true, true, true, true, true, true, true, true, true, true, true, true, true, false] (fun s_ => [(24, .agg #[.bool t108, .int .u64 t109, .int .u64 t110]), (32, .agg #[.bool t111, .int .u64 t112, .int .u64 t113]), (33, .agg #[.bool t114, .int .u64 t115, .int .u64 t116]), (7, .pointer (some ⟨s_, 0, none⟩))]) (fun s_ w' => (w'.cell? ⟨gb101, 0, none⟩ = some (.int .i64 a0_0) ∧ w'.cell? ⟨gb101, 1, none⟩ = some (.int .i64 a0_1) ∧ w'.cell? ⟨gb102, 0, none⟩ = some (.int .i64 a1_0) ∧ w'.cell? ⟨gb102, 1, none⟩ = some (.int .i64 a1_1)) ∧ (Kd.R (Kd.int .u64) 26 w' w.heap.size (fun _ => True) (.slice Ao54 y104.length co54) y104) ∧ (w'.heap[gb101]? = some (.cells #[.int .i64 a0_0, .int .i64 a0_1] 43 (0, 0))) ∧ (w'.heap[gb102]? = some (.cells #[.int .i64 a1_0, .int .i64 a1_1] 43 (0, 0))) ∧ (w'.heap[gb103]? = some (.cells #[.int .i64 0, .int .i64 0] 43 (0, 0))) ∧ (w'.heap[s_]? = some (.cells #[.bool false, .int .u64 0, .int .u64 0] 100 (0, 0))) ∧ (w.heap.size ≤ s_) ∧ (w.heap.size ≤ s_) ∧ (gb101 ≠ s_) ∧ (gb102 ≠ s_) ∧ (gb103 ≠ s_) ∧ (Below w.heap.size w w')) ?_ ?_
 rotate_left
 ·intro hCont
  refine two2 (i := 7) (j := 17) (Ni := some 24) (Nj := some 7) HT_ rfl rfl rfl rfl (fun K hK => ?_) (fun K hK => ?_)
  ·refine gS Try.func40 #[.int .i64 a0_0, .int .i64 (wrap64 (Int.tdiv a1_1 (wrap64 (t107))))] ?_
   with_reducible refine (rat_times.calls a0_0 (wrap64 (Int.tdiv a1_1 (wrap64 (t107)))) t108 t109 t110 _ A5.out).mono ?_
   rintro e w56 ⟨rfl, hb⟩
   refine ⟨_, rfl, ?_⟩
   replace HO106 := rB HO106 hb; replace BK101 := bB BK101 hb; replace BK102 := bB BK102 hb; replace BK103 := bB BK103 hb; replace HB := sB HB hb; (try clear hb); (try clear hb2); (try clear hk); (try clear hi)
   refine hK.out _ _ ⟨cE BK101 0, cE BK101 1, cE BK102 0, cE BK102 1⟩ (fun hHeld => ?_)
   clear hK K
   refine nX (some 24) ?_
   refine two2 (i := 15) (j := 17) (Ni := some 32) (Nj := some 7) HT_ rfl rfl rfl rfl (fun K hK => ?_) (fun K hK => ?_)
   ·refine gS Try.func40 #[.int .i64 a1_0, .int .i64 (wrap64 (Int.tdiv a0_1 (wrap64 (t107))))] ?_
    with_reducible refine (rat_times.calls a1_0 (wrap64 (Int.tdiv a0_1 (wrap64 (t107)))) t111 t112 t113 _ A6.out).mono ?_
    rintro e w57 ⟨rfl, hb⟩
    refine ⟨_, rfl, ?_⟩
    replace HO106 := rB HO106 hb; replace BK101 := bB BK101 hb; replace BK102 := bB BK102 hb; replace BK103 := bB BK103 hb; replace HB := sB HB hb; (try clear hb); (try clear hb2); (try clear hk); (try clear hi)
    refine hK.out _ _ ⟨cE BK101 0, cE BK101 1, cE BK102 0, cE BK102 1⟩ (fun hHeld => ?_)
    clear hK K
    refine nX (some 32) ?_
    refine two2 (i := 16) (j := 17) (Ni := some 33) (Nj := some 7) HT_ rfl rfl rfl rfl (fun K hK => ?_) (fun K hK => ?_)
    ·refine gS Try.func41 #[.agg #[.bool t108, .int .u64 t109, .int .u64 t110], .agg #[.bool t111, .int .u64 t112, .int .u64 t113]] ?_
     with_reducible refine (rat_wide_plus.calls t108 t109 t110 t111 t112 t113 t114 t115 t116 _ A7.out).mono ?_
     rintro e w58 ⟨rfl, hb⟩
     refine ⟨_, rfl, ?_⟩
     replace HO106 := rB HO106 hb; replace BK101 := bB BK101 hb; replace BK102 := bB BK102 hb; replace BK103 := bB BK103 hb; replace HB := sB HB hb; (try clear hb); (try clear hb2); (try clear hk); (try clear hi)
     refine hK.out _ _ ⟨cE BK101 0, cE BK101 1, cE BK102 0, cE BK102 1⟩ (fun hHeld => ?_)
     clear hK K
     refine nX (some 33) ?_
     refine oX (i := 17) (N := some 7) rfl rfl HT_ (fun K hK => ?_)
     refine bS (N := 7) (cs := #[.bool false, .int .u64 0, .int .u64 0]) (t := 100) ?_
     intro gb117 hg w59 hbox hb
     have BK117 := aM (hbox); have GW117 := gE hg HB; have GE117 := gE hg HB; have NB101_117 := nL hg BK101; have NB102_117 := nL hg BK102; have NB103_117 := nL hg BK103; replace HO106 := rB HO106 hb; replace BK101 := bB BK101 hb; replace BK102 := bB BK102 hb; replace BK103 := bB BK103 hb; replace HB := sB HB hb; clear hb hbox hg
     refine hK.out _ _ ⟨cE BK101 0, cE BK101 1, cE BK102 0, cE BK102 1⟩ (fun hHeld => ?_)
     clear hK K
     refine nX (some 7) ?_
     exact nP (hCont (gb117) _ ⟨hHeld, rD HO106, bD BK101, bD BK102, bD BK103, bD BK117, GW117.out, GE117.out, NB101_117.out, NB102_117.out, NB103_117.out, sD HB⟩)
    refine bS (N := 7) (cs := #[.bool false, .int .u64 0, .int .u64 0]) (t := 100) ?_
    intro gb117 hg w58 hbox hb
    have BK117 := aM (hbox); have GW117 := gE hg HB; have GE117 := gE hg HB; have NB101_117 := nL hg BK101; have NB102_117 := nL hg BK102; have NB103_117 := nL hg BK103; replace HO106 := rB HO106 hb; replace BK101 := bB BK101 hb; replace BK102 := bB BK102 hb; replace BK103 := bB BK103 hb; replace HB := sB HB hb; clear hb hbox hg
    refine hK.out _ _ ⟨cE BK101 0, cE BK101 1, cE BK102 0, cE BK102 1⟩ (fun hHeld => ?_)
    clear hK K
    refine nX (some 7) ?_
    refine oX (i := 16) (N := some 33) rfl rfl HT_ (fun K hK => ?_)
    refine gS Try.func41 #[.agg #[.bool t108, .int .u64 t109, .int .u64 t110], .agg #[.bool t111, .int .u64 t112, .int .u64 t113]] ?_
    with_reducible refine (rat_wide_plus.calls t108 t109 t110 t111 t112 t113 t114 t115 t116 _ A7.out).mono ?_
    rintro e w59 ⟨rfl, hb⟩
    refine ⟨_, rfl, ?_⟩
    replace HO106 := rB HO106 hb; replace BK101 := bB BK101 hb; replace BK102 := bB BK102 hb; replace BK103 := bB BK103 hb; replace BK117 := bB BK117 hb; replace HB := sB HB hb; (try clear hb); (try clear hb2); (try clear hk); (try clear hi)
    refine hK.out _ _ ⟨cE BK101 0, cE BK101 1, cE BK102 0, cE BK102 1⟩ (fun hHeld => ?_)
    clear hK K
    refine nX (some 33) ?_
    exact nP (hCont (gb117) _ ⟨hHeld, rD HO106, bD BK101, bD BK102, bD BK103, bD BK117, GW117.out, GE117.out, NB101_117.out, NB102_117.out, NB103_117.out, sD HB⟩)
   refine bS (N := 7) (cs := #[.bool false, .int .u64 0, .int .u64 0]) (t := 100) ?_
   intro gb117 hg w57 hbox hb
   have BK117 := aM (hbox); have GW117 := gE hg HB; have GE117 := gE hg HB; have NB101_117 := nL hg BK101; have NB102_117 := nL hg BK102; have NB103_117 := nL hg BK103; replace HO106 := rB HO106 hb; replace BK101 := bB BK101 hb; replace BK102 := bB BK102 hb; replace BK103 := bB BK103 hb; replace HB := sB HB hb; clear hb hbox hg
   refine hK.out _ _ ⟨cE BK101 0, cE BK101 1, cE BK102 0, cE BK102 1⟩ (fun hHeld => ?_)
   clear hK K
   refine nX (some 7) ?_
   refine oX (i := 15) (N := some 32) rfl rfl HT_ (fun K hK => ?_)
   refine gS Try.func40 #[.int .i64 a1_0, .int .i64 (wrap64 (Int.tdiv a0_1 (wrap64 (t107))))] ?_
   with_reducible refine (rat_times.calls a1_0 (wrap64 (Int.tdiv a0_1 (wrap64 (t107)))) t111 t112 t113 _ A6.out).mono ?_
   rintro e w58 ⟨rfl, hb⟩
   refine ⟨_, rfl, ?_⟩
   replace HO106 := rB HO106 hb; replace BK101 := bB BK101 hb; replace BK102 := bB BK102 hb; replace BK103 := bB BK103 hb; replace BK117 := bB BK117 hb; replace HB := sB HB hb; (try clear hb); (try clear hb2); (try clear hk); (try clear hi)
   refine hK.out _ _ ⟨cE BK101 0, cE BK101 1, cE BK102 0, cE BK102 1⟩ (fun hHeld => ?_)
   clear hK K
   refine nX (some 32) ?_
   refine oX (i := 16) (N := some 33) rfl rfl HT_ (fun K hK => ?_)
   refine gS Try.func41 #[.agg #[.bool t108, .int .u64 t109, .int .u64 t110], .agg #[.bool t111, .int .u64 t112, .int .u64 t113]] ?_
   with_reducible refine (rat_wide_plus.calls t108 t109 t110 t111 t112 t113 t114 t115 t116 _ A7.out).mono ?_
   rintro e w59 ⟨rfl, hb⟩
   refine ⟨_, rfl, ?_⟩
   replace HO106 := rB HO106 hb; replace BK101 := bB BK101 hb; replace BK102 := bB BK102 hb; replace BK103 := bB BK103 hb; replace BK117 := bB BK117 hb; replace HB := sB HB hb; (try clear hb); (try clear hb2); (try clear hk); (try clear hi)
   refine hK.out _ _ ⟨cE BK101 0, cE BK101 1, cE BK102 0, cE BK102 1⟩ (fun hHeld => ?_)
   clear hK K
   refine nX (some 33) ?_
   exact nP (hCont (gb117) _ ⟨hHeld, rD HO106, bD BK101, bD BK102, bD BK103, bD BK117, GW117.out, GE117.out, NB101_117.out, NB102_117.out, NB103_117.out, sD HB⟩)
  refine bS (N := 7) (cs := #[.bool false, .int .u64 0, .int .u64 0]) (t := 100) ?_
  intro gb117 hg w56 hbox hb
  have BK117 := aM (hbox); have GW117 := gE hg HB; have GE117 := gE hg HB; have NB101_117 := nL hg BK101; have NB102_117 := nL hg BK102; have NB103_117 := nL hg BK103; replace HO106 := rB HO106 hb; replace BK101 := bB BK101 hb; replace BK102 := bB BK102 hb; replace BK103 := bB BK103 hb; replace HB := sB HB hb; clear hb hbox hg
  refine hK.out _ _ ⟨cE BK101 0, cE BK101 1, cE BK102 0, cE BK102 1⟩ (fun hHeld => ?_)
  clear hK K
  refine nX (some 7) ?_
  refine oX (i := 7) (N := some 24) rfl rfl HT_ (fun K hK => ?_)
  refine gS Try.func40 #[.int .i64 a0_0, .int .i64 (wrap64 (Int.tdiv a1_1 (wrap64 (t107))))] ?_
  with_reducible refine (rat_times.calls a0_0 (wrap64 (Int.tdiv a1_1 (wrap64 (t107)))) t108 t109 t110 _ A5.out).mono ?_
  rintro e w57 ⟨rfl, hb⟩
  refine ⟨_, rfl, ?_⟩
  replace HO106 := rB HO106 hb; replace BK101 := bB BK101 hb; replace BK102 := bB BK102 hb; replace BK103 := bB BK103 hb; replace BK117 := bB BK117 hb; replace HB := sB HB hb; (try clear hb); (try clear hb2); (try clear hk); (try clear hi)
  refine hK.out _ _ ⟨cE BK101 0, cE BK101 1, cE BK102 0, cE BK102 1⟩ (fun hHeld => ?_)
  clear hK K
  refine nX (some 24) ?_
  refine oX (i := 15) (N := some 32) rfl rfl HT_ (fun K hK => ?_)
  refine gS Try.func40 #[.int .i64 a1_0, .int .i64 (wrap64 (Int.tdiv a0_1 (wrap64 (t107))))] ?_
  with_reducible refine (rat_times.calls a1_0 (wrap64 (Int.tdiv a0_1 (wrap64 (t107)))) t111 t112 t113 _ A6.out).mono ?_
  rintro e w58 ⟨rfl, hb⟩
  refine ⟨_, rfl, ?_⟩
  replace HO106 := rB HO106 hb; replace BK101 := bB BK101 hb; replace BK102 := bB BK102 hb; replace BK103 := bB BK103 hb; replace BK117 := bB BK117 hb; replace HB := sB HB hb; (try clear hb); (try clear hb2); (try clear hk); (try clear hi)
  refine hK.out _ _ ⟨cE BK101 0, cE BK101 1, cE BK102 0, cE BK102 1⟩ (fun hHeld => ?_)
  clear hK K
  refine nX (some 32) ?_
  refine oX (i := 16) (N := some 33) rfl rfl HT_ (fun K hK => ?_)
  refine gS Try.func41 #[.agg #[.bool t108, .int .u64 t109, .int .u64 t110], .agg #[.bool t111, .int .u64 t112, .int .u64 t113]] ?_
  with_reducible refine (rat_wide_plus.calls t108 t109 t110 t111 t112 t113 t114 t115 t116 _ A7.out).mono ?_
  rintro e w59 ⟨rfl, hb⟩
  refine ⟨_, rfl, ?_⟩
  replace HO106 := rB HO106 hb; replace BK101 := bB BK101 hb; replace BK102 := bB BK102 hb; replace BK103 := bB BK103 hb; replace BK117 := bB BK117 hb; replace HB := sB HB hb; (try clear hb); (try clear hb2); (try clear hk); (try clear hi)
  refine hK.out _ _ ⟨cE BK101 0, cE BK101 1, cE BK102 0, cE BK102 1⟩ (fun hHeld => ?_)
  clear hK K
  refine nX (some 33) ?_
  exact nP (hCont (gb117) _ ⟨hHeld, rD HO106, bD BK101, bD BK102, bD BK103, bD BK117, GW117.out, GE117.out, NB101_117.out, NB102_117.out, NB103_117.out, sD HB⟩)
 rintro gb117 w60 ⟨hS_, h0_, h1_, h2_, h3_, h4_, h5_, h6_, h7_, h9_, h11_, h13_⟩
 (try dsimp only at h0_ h1_ h2_ h3_ h4_ h5_ h6_ h7_ h9_ h11_ h13_)
 have BK117 := aM h4_; have GW117 := aM h5_; have GE117 := aM h6_; have NB101_117 := aM h7_; have NB102_117 := aM h9_; have NB103_117 := aM h11_; replace HO106 := aM h0_; replace BK101 := aM h1_; replace BK102 := aM h2_; replace BK103 := aM h3_; replace HB := aM h13_; clear h0_ h1_ h2_ h3_ h4_ h5_ h6_ h7_ h9_ h11_ h13_
 (try dsimp only at hS_); have hHeld := hS_; clear hS_
 refine nQ ?_
 refine oX (i := 18) (N := none) rfl rfl HT_ (fun K hK => ?_)
 have hs61 : w60.cell? ⟨gb117, 0, none⟩ = some (.bool false) := (blk_cell BK117.out 0).trans rfl
 have hfs61 := blk_frozen BK117.out 0; have hns61_0 := NB101_117.out; have hns61_1 := NB102_117.out; have hns61_2 := NB103_117.out; have hms61_0 := NB101_117.out.symm; have hms61_1 := NB102_117.out.symm; have hms61_2 := NB103_117.out.symm
 have hs62 : w60.cell? ⟨gb117, 1, none⟩ = some (.int .u64 0) := (blk_cell BK117.out 1).trans rfl
 have hfs62 := blk_frozen BK117.out 1; have hns62_0 := NB101_117.out; have hns62_1 := NB102_117.out; have hns62_2 := NB103_117.out; have hms62_0 := NB101_117.out.symm; have hms62_1 := NB102_117.out.symm; have hms62_2 := NB103_117.out.symm
 have hs63 : w60.cell? ⟨gb117, 2, none⟩ = some (.int .u64 0) := (blk_cell BK117.out 2).trans rfl
 have hfs63 := blk_frozen BK117.out 2; have hns63_0 := NB101_117.out; have hns63_1 := NB102_117.out; have hns63_2 := NB103_117.out; have hms63_0 := NB101_117.out.symm; have hms63_1 := NB102_117.out.symm; have hms63_2 := NB103_117.out.symm
 refine skip_ (w1 := ?_) (by rfl) rfl ?_ ?_
 rotate_left
 ·go_simp
  rfl
 refine hK.out _ _ ⟨((cell_far (p := ⟨gb117, _, none⟩) NB101_117.out _).trans (((cell_far (p := ⟨gb117, _, none⟩) NB101_117.out _).trans (((cell_far (p := ⟨gb117, _, none⟩) NB101_117.out _).trans (hHeld.1)))))), ((cell_far (p := ⟨gb117, _, none⟩) NB101_117.out _).trans (((cell_far (p := ⟨gb117, _, none⟩) NB101_117.out _).trans (((cell_far (p := ⟨gb117, _, none⟩) NB101_117.out _).trans (hHeld.2.1)))))), ((cell_far (p := ⟨gb117, _, none⟩) NB102_117.out _).trans (((cell_far (p := ⟨gb117, _, none⟩) NB102_117.out _).trans (((cell_far (p := ⟨gb117, _, none⟩) NB102_117.out _).trans (hHeld.2.2.1)))))), ((cell_far (p := ⟨gb117, _, none⟩) NB102_117.out _).trans (((cell_far (p := ⟨gb117, _, none⟩) NB102_117.out _).trans (((cell_far (p := ⟨gb117, _, none⟩) NB102_117.out _).trans (hHeld.2.2.2))))))⟩ (fun hHeld => ?_)
 clear hK K
 refine done_ (done_of HT_.out (by kernel_rfl)) ?_
 have hnb64 := NB101_117.out.symm; have hnc64 := NB101_117.out; have hnb65 := NB102_117.out.symm; have hnc65 := NB102_117.out; have hnb66 := NB103_117.out.symm; have hnc66 := NB103_117.out; obtain ⟨hcz67_0, hcz67_1, hcz67_2, hfz67_0, hfz67_1, hfz67_2⟩ := cZ3 BK117
 try go_wp2_with (first | ((with_reducible refine gate_callee (f := 64) rfl ?_); refine gL (some 35) Try.func64 #[.agg #[.bool t114, .int .u64 t115, .int .u64 t116]] ?_; (with_reducible refine (rat_wide_zero.calls t114 t115 t116 false _ A8.out).mono ?_); rintro e w68 ⟨rfl, hb⟩; refine ⟨_, rfl, ?_⟩; replace HO106 := aM (Kd.R_below (rD ⟨(Kd.R_mono (Kd.R_far (p := ⟨gb117, 2, none⟩) (Kd.R_far (p := ⟨gb117, 1, none⟩) (Kd.R_far (p := ⟨gb117, 0, none⟩) (Kd.R_types HO106.out BK117.out (by decide)) (fun _ hk => hk.2) (.bool t114)) (fun _ hk => hk.2) (.int .u64 t115)) (fun _ hk => hk.2) (.int .u64 t116)) (fun _ h_ => h_.1))⟩) hb); replace BK101 := aM (blk_below (g := gb101) (o := .cells #[.int .i64 a0_0, .int .i64 a0_1] 43 (0, 0)) (bF BK101) hb); replace BK102 := aM (blk_below (g := gb102) (o := .cells #[.int .i64 a1_0, .int .i64 a1_1] 43 (0, 0)) (bF BK102) hb); replace BK103 := aM (blk_below (g := gb103) (o := .cells #[.int .i64 0, .int .i64 0] 43 (0, 0)) (bF BK103) hb); replace HB := sB HB hb; replace BK117 := aM (blk_below (g := gb117) (o := .cells #[.bool t114, .int .u64 t115, .int .u64 t116] 100 (0, 0)) (by refine bM ?_; refine blk_put (cs := #[.bool t114, .int .u64 t115, .int .u64 0]) ?_ 2 _ rfl; refine bM ?_; refine blk_put (cs := #[.bool t114, .int .u64 0, .int .u64 0]) ?_ 1 _ rfl; refine bM ?_; refine blk_put (cs := #[.bool false, .int .u64 0, .int .u64 0]) ?_ 0 _ rfl; exact bD BK117) hb); (try clear hb); obtain ⟨hcz69_0, hcz69_1, hcz69_2, hfz69_0, hfz69_1, hfz69_2⟩ := cZ3 BK117) | ((with_reducible refine gate_callee (f := 66) rfl ?_); refine gL (some 44) Try.func66 #[.int .u64 t115, .int .u64 t116, .int .u64 t107] ?_; (with_reducible refine (bits_Rem64.calls t115 t116 t107 t122 _ A38.out).mono ?_); rintro e w70 ⟨rfl, hb⟩; refine ⟨_, rfl, ?_⟩; replace HO106 := rB HO106 hb; replace BK101 := bB BK101 hb; replace BK102 := bB BK102 hb; replace BK103 := bB BK103 hb; replace BK117 := bB BK117 hb; replace HB := sB HB hb; (try clear hb)) | ((with_reducible refine gate_dst (N := 46) rfl ?_); refine Kd.R_lit (Kd.int .u64) _ 26 ?hg (N := 46) ?hd (xs := ([t122, t107] : List Int)) (inner := [.int .u64 t122, .int .u64 t107]) (ok := fun _ => True) (okp := fun _ => True) ?hr ?hp (fun _ hk => hk) trivial (Below.refl _ _) (Nat.le_refl _) (by simp) ?_; (case hd => rfl); (case hg => rfl); (case hr => first | (go_simp; done) | (go_simp; rfl)); (case hp => exact (Reps.one (show Kd.M (Kd.int .u64) _ _ _ t122 [.int .u64 t122] from rfl) (Reps.one (show Kd.M (Kd.int .u64) _ _ _ t107 [.int .u64 t107] from rfl) (Reps.none _ _)))); intro v124 w71 ho72 hb hg_ hnew_; clear hg_ hnew_; (first | rw [← Ny123.out] at ho72 | (simp only [Int.reduceToNat] at ho72; rw [← Ny123.out] at ho72)); have HO125 := aM (Kd.R_lower (Kd.R_new' ho72 (Kd.R_lt (rD HO106))) (below_size (sD HB))); replace HO106 := aM (Kd.R_elder' (rD HO106) (Kd.R_base ho72) hb); replace BK101 := bB BK101 hb; replace BK102 := bB BK102 hb; replace BK103 := bB BK103 hb; replace BK117 := bB BK117 hb; replace HB := sB HB hb; clear hb ho72; obtain ⟨Ao73, co73, eo73⟩ := Kd.R_slice HO125.out; subst eo73) | ((with_reducible refine gate_callee (f := 63) rfl ?_); refine gL (some 47) Try.func63 #[.slice Ao73 y123.length co73] ?_; (with_reducible refine (rat_gcd.calls k _ _ y123 t126 _ ?side1 ?side2 A39.out).mono ?_); (case side1 => exact rC HO125); (case side2 => exact rN HO125); rintro e w' ⟨rfl, ⟨nd, rfl⟩⟩; refine ⟨_, rfl, ?_⟩; (try (rw [drewN_self w71]; generalize hq_ : World.drewN w71 _ = w71; have n0_ : Aside0 (Kd.R (Kd.int .u64) 26 w71 w.heap.size (fun k_ => some k_ ≠ (.slice Ao73 y123.length co73 : Value).ownBlock) (.slice Ao54 y104.length co54) y104) := ⟨by rw [← hq_]; exact (rD ⟨Kd.R_mono HO106.out (fun _ hk => hk.2)⟩)⟩; have n1_ : Aside0 (Kd.R (Kd.int .u64) 26 w71 w.heap.size (fun k_ => some k_ ≠ (.slice Ao54 y104.length co54 : Value).ownBlock) (.slice Ao73 y123.length co73) y123) := ⟨by rw [← hq_]; exact (rD ⟨Kd.R_mono HO125.out (fun _ hk => hk.2)⟩)⟩; have n2_ : Aside0 (w71.heap[gb101]? = some (.cells #[.int .i64 a0_0, .int .i64 a0_1] 43 (0, 0))) := ⟨by rw [← hq_]; exact (bD BK101)⟩; have n3_ : Aside0 (w71.heap[gb102]? = some (.cells #[.int .i64 a1_0, .int .i64 a1_1] 43 (0, 0))) := ⟨by rw [← hq_]; exact (bD BK102)⟩; have n4_ : Aside0 (w71.heap[gb103]? = some (.cells #[.int .i64 0, .int .i64 0] 43 (0, 0))) := ⟨by rw [← hq_]; exact (bD BK103)⟩; have n5_ : Aside0 (w71.heap[gb117]? = some (.cells #[.bool t114, .int .u64 t115, .int .u64 t116] 100 (0, 0))) := ⟨by rw [← hq_]; exact (bD BK117)⟩; have n6_ : Aside0 (Below w.heap.size w w71) := ⟨by rw [← hq_]; exact (sD HB)⟩; clear HO106 HO125 BK101 BK102 BK103 BK117 HB hq_; have HO106 := n0_; have HO125 := n1_; have BK101 := n2_; have BK102 := n3_; have BK103 := n4_; have BK117 := n5_; have HB := n6_; clear n0_ n1_ n2_ n3_ n4_ n5_ n6_))))
 replace HO106 := aM (Kd.R_drew HO106.out); replace HO125 := aM (Kd.R_drew HO125.out); replace BK101 := aM (blk_drew BK101.out); replace BK102 := aM (blk_drew BK102.out); replace BK103 := aM (blk_drew BK103.out); replace BK117 := aM (blk_drew BK117.out); replace HB := aM (below_drew1 HB.out)
 refine start_ (n := 19) (S := fun w' => w'.cell? ⟨gb117, 0, none⟩ = some (.bool t114) ∧ w'.cell? ⟨gb117, 1, none⟩ = some (.int .u64 t115) ∧ w'.cell? ⟨gb117, 2, none⟩ = some (.int .u64 t116) ∧ w'.cell? ⟨gb101, 0, none⟩ = some (.int .i64 a0_0) ∧ w'.cell? ⟨gb101, 1, none⟩ = some (.int .i64 a0_1) ∧ w'.cell? ⟨gb102, 0, none⟩ = some (.int .i64 a1_0) ∧ w'.cell? ⟨gb102, 1, none⟩ = some (.int .i64 a1_1)) (ds := []) #[false, false, false, false, false, false, false, false, false, false, false, false, false, false, false, false, false, false, false] (by kernel_rfl) rfl rfl ⟨cE BK117 0, cE BK117 1, cE BK117 2, cE BK101 0, cE BK101 1, cE BK102 0, cE BK102 1⟩ (fun hHeld => ?_); refine with_tabW rat_Add.tab6 rat_Add.bits6 (fun HT_ HW_ => ?_)
 generalize w71.drew = w74 at HO106 HO125 BK101 BK102 BK103 BK117 HB hHeld ⊢
 refine pX (i := 1) (N := some 49) rfl rfl HT_ ?_
 refine pX (i := 3) (N := some 51) rfl rfl HT_ ?_
 refine pX (i := 5) (N := some 53) rfl rfl HT_ ?_
 refine pX (i := 6) (N := some 54) rfl rfl HT_ ?_
 refine pX (i := 8) (N := some 56) rfl rfl HT_ ?_
 refine pX (i := 10) (N := some 58) rfl rfl HT_ ?_
 refine pX (i := 11) (N := some 59) rfl rfl HT_ ?_
 refine tX (i := 0) (N := some 48) rfl rfl HT_ HW_ hHeld (Or.inl ⟨by rfl, by rintro w' ⟨s0, s1, s2, s3, s4, s5, s6⟩; go_simp; with_reducible rfl⟩) ?_
 refine tX (i := 4) (N := some 52) rfl rfl HT_ HW_ hHeld (Or.inl ⟨by rfl, by rintro w' ⟨s0, s1, s2, s3, s4, s5, s6⟩; go_simp; with_reducible rfl⟩) ?_
 refine pX (i := 7) (N := some 55) rfl rfl HT_ ?_
 refine tX (i := 9) (N := some 57) rfl rfl HT_ HW_ hHeld (Or.inl ⟨by rfl, by rintro w' ⟨s0, s1, s2, s3, s4, s5, s6⟩; go_simp; with_reducible rfl⟩) ?_
 refine pX (i := 12) (N := some 60) rfl rfl HT_ ?_
 refine oX (i := 2) (N := some 50) rfl rfl HT_ (fun K hK => ?_)
 refine gS Try.func68 #[.agg #[.bool t114, .int .u64 t115, .int .u64 t116], .int .u64 t126] ?_
 with_reducible refine (rat_wide_over.calls t114 t115 t116 t126 t127 t128 t129 _ A40.out).mono ?_
 rintro e w75 ⟨rfl, hb⟩
 refine ⟨_, rfl, ?_⟩
 replace HO106 := rB HO106 hb; replace HO125 := rB HO125 hb; replace BK101 := bB BK101 hb; replace BK102 := bB BK102 hb; replace BK103 := bB BK103 hb; replace BK117 := bB BK117 hb; replace HB := sB HB hb; (try clear hb); (try clear hb2); (try clear hk); (try clear hi)
 refine hK.out _ _ ⟨cE BK117 0, cE BK117 1, cE BK117 2, cE BK101 0, cE BK101 1, cE BK102 0, cE BK102 1⟩ (fun hHeld => ?_)
 clear hK K
 refine nX (some 50) ?_
 refine oX (i := 13) (N := some 61) rfl rfl HT_ (fun K hK => ?_)
 refine gS Try.func40 #[.int .i64 (wrap64 (Int.tdiv a0_1 (wrap64 (t107)))), .int .i64 (wrap64 (Int.tdiv a1_1 (wrap64 (t126))))] ?_
 with_reducible refine (rat_times.calls (wrap64 (Int.tdiv a0_1 (wrap64 (t107)))) (wrap64 (Int.tdiv a1_1 (wrap64 (t126)))) t130 t131 t132 _ A42.out).mono ?_
 rintro e w76 ⟨rfl, hb⟩
 refine ⟨_, rfl, ?_⟩
 replace HO106 := rB HO106 hb; replace HO125 := rB HO125 hb; replace BK101 := bB BK101 hb; replace BK102 := bB BK102 hb; replace BK103 := bB BK103 hb; replace BK117 := bB BK117 hb; replace HB := sB HB hb; (try clear hb); (try clear hb2); (try clear hk); (try clear hi)
 refine hK.out _ _ ⟨cE BK117 0, cE BK117 1, cE BK117 2, cE BK101 0, cE BK101 1, cE BK102 0, cE BK102 1⟩ (fun hHeld => ?_)
 clear hK K
 refine nX (some 61) ?_
 refine oX (i := 14) (N := some 62) rfl rfl HT_ (fun K hK => ?_)
 refine gS Try.func67 #[.agg #[.bool t127, .int .u64 t128, .int .u64 t129], .agg #[.bool t130, .int .u64 t131, .int .u64 t132]] ?_
 with_reducible refine (rat_made.calls k t127 t128 t129 t130 t131 t132 t133 t134 t135 _ A43.out).mono ?_
 rintro e w77 ⟨rfl, hb⟩
 refine ⟨_, rfl, ?_⟩
 replace HO106 := rB HO106 hb; replace HO125 := rB HO125 hb; replace BK101 := bB BK101 hb; replace BK102 := bB BK102 hb; replace BK103 := bB BK103 hb; replace BK117 := bB BK117 hb; replace HB := sB HB hb; (try clear hb); (try clear hb2); (try clear hk); (try clear hi)
 refine hK.out _ _ ⟨cE BK117 0, cE BK117 1, cE BK117 2, cE BK101 0, cE BK101 1, cE BK102 0, cE BK102 1⟩ (fun hHeld => ?_)
 clear hK K
 refine nX (some 62) ?_
 refine pX (i := 15) (N := some 63) rfl rfl HT_ ?_
 refine pX (i := 16) (N := some 64) rfl rfl HT_ ?_
 refine oX (i := 17) (N := none) rfl rfl HT_ (fun K hK => ?_)
 have hs78 : w77.cell? ⟨gb103, 0, none⟩ = some (.int .i64 0) := (blk_cell BK103.out 0).trans rfl
 have hfs78 := blk_frozen BK103.out 0; have hns78_0 := NB101_103.out; have hns78_1 := NB102_103.out; have hns78_3 := NB103_117.out.symm; have hms78_0 := NB101_103.out.symm; have hms78_1 := NB102_103.out.symm; have hms78_3 := NB103_117.out
 have hs79 : w77.cell? ⟨gb103, 1, none⟩ = some (.int .i64 0) := (blk_cell BK103.out 1).trans rfl
 have hfs79 := blk_frozen BK103.out 1; have hns79_0 := NB101_103.out; have hns79_1 := NB102_103.out; have hns79_3 := NB103_117.out.symm; have hms79_0 := NB101_103.out.symm; have hms79_1 := NB102_103.out.symm; have hms79_3 := NB103_117.out
 refine skip_ (w1 := ?_) (by rfl) rfl ?_ ?_
 rotate_left
 ·go_simp
  rfl
 refine hK.out _ _ ⟨((cell_far (p := ⟨gb103, _, none⟩) NB103_117.out.symm _).trans (((cell_far (p := ⟨gb103, _, none⟩) NB103_117.out.symm _).trans (hHeld.1)))), ((cell_far (p := ⟨gb103, _, none⟩) NB103_117.out.symm _).trans (((cell_far (p := ⟨gb103, _, none⟩) NB103_117.out.symm _).trans (hHeld.2.1)))), ((cell_far (p := ⟨gb103, _, none⟩) NB103_117.out.symm _).trans (((cell_far (p := ⟨gb103, _, none⟩) NB103_117.out.symm _).trans (hHeld.2.2.1)))), ((cell_far (p := ⟨gb103, _, none⟩) NB101_103.out _).trans (((cell_far (p := ⟨gb103, _, none⟩) NB101_103.out _).trans (hHeld.2.2.2.1)))), ((cell_far (p := ⟨gb103, _, none⟩) NB101_103.out _).trans (((cell_far (p := ⟨gb103, _, none⟩) NB101_103.out _).trans (hHeld.2.2.2.2.1)))), ((cell_far (p := ⟨gb103, _, none⟩) NB102_103.out _).trans (((cell_far (p := ⟨gb103, _, none⟩) NB102_103.out _).trans (hHeld.2.2.2.2.2.1)))), ((cell_far (p := ⟨gb103, _, none⟩) NB102_103.out _).trans (((cell_far (p := ⟨gb103, _, none⟩) NB102_103.out _).trans (hHeld.2.2.2.2.2.2))))⟩ (fun hHeld => ?_)
 clear hK K
 refine pX (i := 18) (N := some 5) rfl rfl HT_ ?_
 refine done_ (done_of HT_.out (by kernel_rfl)) ?_
 try go_wp2
 refine bodyPost_ret (results_ct rfl _ _ gb103 43 #[.int .i64 t133, .int .i64 t134] (0, 0) _ rfl (by refine bM ?_; refine blk_put (cs := #[.int .i64 t133, .int .i64 0]) ?_ 1 _ rfl; refine bM ?_; refine blk_put (cs := #[.int .i64 0, .int .i64 0]) ?_ 0 _ rfl; exact bD BK103) Try.underlying43 rfl (by kernel_rfl)) rfl ?_
 exact ⟨by first | rfl | (simp [errW_none, errW_some] <;> rfl) | (simp [*, errW_none, errW_some] <;> rfl), sD HB⟩
end Go.Proofs.Ytfdoncgljohndaa.P
namespace Go.Proofs.Ytfdoncgljohndaa.P
open Go.Proofs.YtfdoncgljohndaaH Go.RowKit Go.Proofs.YtfdoncgljohndaaW.PrintWords Go.Proofs.YtfdoncgljohndaaW.PrintLast Go.Proofs.YtfdoncgljohndaaW.PrintMore
attribute [local go_sem] max2_int min2_int max_two min_two max_three min_three max_four min_four   -- for this text's walks alone
attribute [local go_sem] Go.Proofs.YtfdoncgljohndaaH.cell_set_map
def rat_Sub.f (k : Nat) (a0_0 : Int) (a0_1 : Int) (a1_0 : Int) (a1_1 : Int) : Option (Int × Int × Int) := (rat_Add.f k a0_0 a0_1 (wrap64 (-a1_0)) a1_1).bind fun bt104 => (some (bt104.1, bt104.2.1, bt104.2.2))
set_option maxHeartbeats 40000000 in
set_option maxRecDepth 100000 in
theorem rat_Sub.calls (k : Nat) (a0_0 : Int) (a0_1 : Int) (a1_0 : Int) (a1_1 : Int) (r1 : Int) (r2 : Int) (r3 : Int) (w : World) (h : rat_Sub.f k a0_0 a0_1 a1_0 a1_1 = some (r1, r2, r3)) :
  Calls Try.prog 25 #[.agg #[.int .i64 a0_0, .int .i64 a0_1], .agg #[.int .i64 a1_0, .int .i64 a1_1]] w fun e w' => e = .returned (.tuple #[.agg #[.int .i64 r1, .int .i64 r2], .int .i64 r3]) ∧ Below w.heap.size w w' := by
 have hu43 := Try.underlying43; have HB := aM (Below.refl w.heap.size w)
 have H : ((rat_Add.f k a0_0 a0_1 (wrap64 (-a1_0)) a1_1).bind fun bt104 => (some (bt104.1, bt104.2.1, bt104.2.2))) = some (r1, r2, r3) := h
 clear h; replace H := Option.bind_eq_some_iff.mp H
 obtain ⟨⟨t104, t105, t106⟩, A30, H⟩ := H
 replace H : (some (t104, t105, t106)) = some (r1, r2, r3) := H
 have A3 := aM A30; clear A30
 simp only [Option.some.injEq, Prod.mk.injEq] at H
 obtain ⟨rfl, rfl, rfl⟩ := H
 go_enter Try.func25, Try.ntmps25
 go_wp2_with (first | ((with_reducible refine gate_dst (N := 2) rfl ?_); refine bE (N := 2) (cs := #[.int .i64 a0_0, .int .i64 a0_1]) (t := 43) ?_; intro gb101 hg w4 hbox hb; have BK101 := aM (hbox); have GW101 := gE hg HB; have GE101 := gE hg HB; replace HB := sB HB hb; clear hb hbox hg) | ((with_reducible refine gate_dst (N := 3) rfl ?_); refine bE (N := 3) (cs := #[.int .i64 a1_0, .int .i64 a1_1]) (t := 43) ?_; intro gb102 hg w5 hbox hb; have BK102 := aM (hbox); have GW102 := gE hg HB; have GE102 := gE hg HB; have NB101_102 := nL hg BK101; replace BK101 := bB BK101 hb; replace HB := sB HB hb; clear hb hbox hg) | ((with_reducible refine gate_dst (N := 4) rfl ?_); refine bE (N := 4) (cs := #[.int .i64 0, .int .i64 0]) (t := 43) ?_; intro gb103 hg w6 hbox hb; have BK103 := aM (hbox); have GW103 := gE hg HB; have GE103 := gE hg HB; have NB101_103 := nL hg BK101; have NB102_103 := nL hg BK102; replace BK101 := bB BK101 hb; replace BK102 := bB BK102 hb; replace HB := sB HB hb; clear hb hbox hg; have hnb7 := NB101_102.out; have hnc7 := NB101_102.out.symm; have hnb8 := NB101_103.out; have hnc8 := NB101_103.out.symm; obtain ⟨hcz9_0, hcz9_1, hfz9_0, hfz9_1⟩ := cZ2 BK101; have hnb10 := NB102_103.out; have hnc10 := NB102_103.out.symm; obtain ⟨hcz11_0, hcz11_1, hfz11_0, hfz11_1⟩ := cZ2 BK102) | ((with_reducible refine gate_callee (f := 42) rfl ?_); refine gL (some 13) Try.func42 #[.agg #[.int .i64 a0_0, .int .i64 a0_1], .agg #[.int .i64 (wrap64 (-a1_0)), .int .i64 a1_1]] ?_; (with_reducible refine (rat_Add.calls k a0_0 a0_1 (wrap64 (-a1_0)) a1_1 t104 t105 t106 _ A3.out).mono ?_); rintro e w12 ⟨rfl, hb⟩; refine ⟨_, rfl, ?_⟩; replace BK101 := bB BK101 hb; replace BK102 := bB BK102 hb; replace BK103 := bB BK103 hb; replace HB := sB HB hb; (try clear hb); obtain ⟨hcz13_0, hcz13_1, hfz13_0, hfz13_1⟩ := cZ2 BK103))
 refine bodyPost_ret (results_ct rfl _ _ gb103 43 #[.int .i64 t104, .int .i64 t105] (0, 0) _ rfl (by refine bM ?_; refine blk_put (cs := #[.int .i64 t104, .int .i64 0]) ?_ 1 _ rfl; refine bM ?_; refine blk_put (cs := #[.int .i64 0, .int .i64 0]) ?_ 0 _ rfl; exact bD BK103) Try.underlying43 rfl (by kernel_rfl)) rfl ?_
 exact ⟨by first | rfl | (simp [errW_none, errW_some] <;> rfl) | (simp [*, errW_none, errW_some] <;> rfl), sD HB⟩
end Go.Proofs.Ytfdoncgljohndaa.P

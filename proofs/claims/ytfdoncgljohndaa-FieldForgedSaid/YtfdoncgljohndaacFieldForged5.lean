/- A part of the claim FieldForged: lemmas, printed functions with their contracts, plain laws. -/
import Derived.Test.YtfdoncgljohndaacFieldForged4
set_option linter.unusedVariables false
set_option linter.unusedSimpArgs false
namespace Go.Proofs.Ytfdoncgljohndaa.P
open Go.Proofs.YtfdoncgljohndaaH Go.RowKit Go.Proofs.YtfdoncgljohndaaW.PrintWords Go.Proofs.YtfdoncgljohndaaW.PrintLast Go.Proofs.YtfdoncgljohndaaW.PrintMore
attribute [local go_sem] max2_int min2_int max_two min_two max_three min_three max_four min_four   -- for this text's walks alone
def paroleref03_Step.f (a0 : Int) (a1 : Int) : Option (Int) := some (Go.bits .xor .u64 (IntKind.u64.wrap ((Go.bits .xor .u64 (IntKind.u64.wrap ((Go.bits .xor .u64 a0 a1) * 11400714819323198485)) ((IntKind.u64.wrap ((Go.bits .xor .u64 a0 a1) * 11400714819323198485)) / 536870912)) * 13787848793156543929)) ((IntKind.u64.wrap ((Go.bits .xor .u64 (IntKind.u64.wrap ((Go.bits .xor .u64 a0 a1) * 11400714819323198485)) ((IntKind.u64.wrap ((Go.bits .xor .u64 a0 a1) * 11400714819323198485)) / 536870912)) * 13787848793156543929)) / 4294967296))
set_option maxHeartbeats 40000000 in
set_option maxRecDepth 100000 in
theorem paroleref03_Step.calls (a0 : Int) (a1 : Int) (r : Int) (w : World) (h : paroleref03_Step.f a0 a1 = some r) :
  Calls Try.prog 52 #[.int .u64 a0, .int .u64 a1] w fun e w' => e = .returned (.int .u64 r) ∧ Drawn0 w w' := by
 have H : (some (Go.bits .xor .u64 (IntKind.u64.wrap ((Go.bits .xor .u64 (IntKind.u64.wrap ((Go.bits .xor .u64 a0 a1) * 11400714819323198485)) ((IntKind.u64.wrap ((Go.bits .xor .u64 a0 a1) * 11400714819323198485)) / 536870912)) * 13787848793156543929)) ((IntKind.u64.wrap ((Go.bits .xor .u64 (IntKind.u64.wrap ((Go.bits .xor .u64 a0 a1) * 11400714819323198485)) ((IntKind.u64.wrap ((Go.bits .xor .u64 a0 a1) * 11400714819323198485)) / 536870912)) * 13787848793156543929)) / 4294967296))) = some r := h
 clear h
 obtain rfl := Option.some.inj H
 go_enter Try.func52, Try.ntmps52
 go_wp2
 go_ret
 exact ⟨by first | rfl | (simp; done) | (simp [*]; done), by repeat (first | exact Drawn0.refl _ | apply Drawn0.step)⟩
end Go.Proofs.Ytfdoncgljohndaa.P
namespace Go.Proofs.Ytfdoncgljohndaa.P
open Go.Proofs.YtfdoncgljohndaaH Go.RowKit Go.Proofs.YtfdoncgljohndaaW.PrintWords Go.Proofs.YtfdoncgljohndaaW.PrintLast Go.Proofs.YtfdoncgljohndaaW.PrintMore
attribute [local go_sem] max2_int min2_int max_two min_two max_three min_three max_four min_four   -- for this text's walks alone
def paroleref03_Words.l0 : Nat → List Int → Int → Int → Option (Int)
 | 0, _, _, _ => none
 | k + 1, x0, x3, x4 => if x4 < (x0.length : Int) then (if 0 ≤ x4 then ((paroleref03_Step.f x3 (IntKind.u64.wrap (rd x0 x4))).bind fun t103 => (paroleref03_Words.l0 k x0 t103 (wrap64 (x4 + 1)))) else (none)) else (some x3)
def paroleref03_Words.f (k : Nat) (l0 : List Int) : Option (Int) := (paroleref03_Step.f 2611923443488327891 (IntKind.u64.wrap ((l0.length : Int)))).bind fun t101 => (paroleref03_Words.l0 k l0 t101 0)
set_option maxHeartbeats 40000000 in
set_option maxRecDepth 100000 in
theorem paroleref03_Words.calls (k : Nat) (A0 : Option Addr) (c0 : Nat) (l0 : List Int) (r : Int) (w : World) (hr0 : Kd.C (Kd.int .i64) w A0 l0.length l0) (hc0 : l0.length ≤ c0) (h : paroleref03_Words.f k l0 = some r) :
  Calls Try.prog 35 #[.slice A0 l0.length c0] w fun e w' => e = .returned (.int .u64 r) ∧ Drawn0 w w' := by
 have HR0 := aM hr0; have HC0 := aM hc0; clear hr0 hc0
 have H : ((paroleref03_Step.f 2611923443488327891 (IntKind.u64.wrap ((l0.length : Int)))).bind fun t101 => (paroleref03_Words.l0 k l0 t101 0)) = some r := h
 clear h; replace H := Option.bind_eq_some_iff.mp H
 obtain ⟨t101, A20, H⟩ := H
 replace H : (paroleref03_Words.l0 k l0 t101 0) = some r := H
 have A2 := aM A20; clear A20; have H' := aM H; clear H
 go_enter Try.func35, Try.ntmps35
 go_wp2_with (first | ((with_reducible refine gate_callee (f := 52) rfl ?_); refine gL (some 8) Try.func52 #[.int .u64 2611923443488327891, .int .u64 (IntKind.u64.wrap ((l0.length : Int)))] ?_; (with_reducible refine (paroleref03_Step.calls 2611923443488327891 (IntKind.u64.wrap ((l0.length : Int))) t101 _ A2.out).mono ?_); rintro e w' ⟨rfl, ⟨nd, rfl⟩⟩; refine ⟨_, rfl, ?_⟩))
 go_loopg [3, 4] k (fun kq v3 v4 w' => ∃ (x3_1 : Int) (x4_1 : Int), v3 = .int .u64 x3_1 ∧ v4 = .int .i64 x4_1 ∧ Aside0 (paroleref03_Words.l0 kq l0 x3_1 x4_1 = some r) ∧ Aside0 (kq ≤ k) ∧ Drawn0 w w')
 case atStart => exact ⟨(t101), (0), (by first | rfl | (simp; done) | (simp [*]; done)), (by first | rfl | (simp; done) | (simp [*]; done)), H', ⟨Nat.le_refl _⟩, by repeat (first | exact Drawn0.refl _ | apply Drawn0.step)⟩
 case round =>
  clear H'
  try clear p2
  obtain ⟨x3_1, x4_1, rfl, rfl, HA, HK1, ⟨m1, rfl⟩⟩ := hrel
  cases gk with
  | zero => exact absurd HA.out (by simp [paroleref03_Words.l0])
  | succ k1 =>
   have H := HA.out; clear HA
   simp only [paroleref03_Words.l0] at H
   by_cases c3 : x4_1 < (l0.length : Int)
   ·rw [if_pos c3] at H
    have c3b0 : decide (x4_1 < (l0.length : Int)) = true := decide_eq_true c3
    clear c3
    by_cases c4 : 0 ≤ x4_1
    ·rw [if_pos c4] at H
     have c4b0 : decide (0 ≤ x4_1) = true := decide_eq_true c4
     clear c4; replace H := Option.bind_eq_some_iff.mp H
     obtain ⟨t103, A50, H⟩ := H
     replace H : (paroleref03_Words.l0 k1 l0 t103 (wrap64 (x4_1 + 1))) = some r := H
     have A5 := aM A50; clear A50; have H' := aM H; clear H
     have p102 : 0 ≤ (x4_1 : Int) := of_decide_eq_true (by first | (with_reducible assumption) | assumption)
     have q102 : x4_1 < (l0.length : Int) := of_decide_eq_true (by first | (with_reducible assumption) | assumption)
     obtain ⟨ad102, e102, hx102_0⟩ := Kd.at_int HR0.out x4_1 p102 q102
     cases e102
     replace p102 := eq_true p102; replace q102 := eq_true q102
     go_wp2_with (first | ((with_reducible refine gate_callee (f := 52) rfl ?_); refine gL (some 21) Try.func52 #[.int .u64 x3_1, .int .u64 (IntKind.u64.wrap (rd l0 x4_1))] ?_; (with_reducible refine (paroleref03_Step.calls x3_1 (IntKind.u64.wrap (rd l0 x4_1)) t103 _ A5.out).mono ?_); rintro e w' ⟨rfl, ⟨nd, rfl⟩⟩; refine ⟨_, rfl, ?_⟩))
     go_roundg k1
     case measure => have := HK1.out; omega
     case rel => exact ⟨(t103), (wrap64 (x4_1 + 1)), (by first | rfl | (simp; done) | (simp [*]; done)), (by first | rfl | (simp; done) | (simp [*]; done)), H', ⟨by have := HK1.out; omega⟩, by repeat (first | exact Drawn0.refl _ | apply Drawn0.step)⟩
    ·rw [if_neg c4] at H
     exact absurd H (by simp)
   ·rw [if_neg c3] at H
    have c3b0 : decide (x4_1 < (l0.length : Int)) = false := decide_eq_false c3
    clear c3
    obtain rfl := Option.some.inj H
    go_wp2
    go_ret
    exact ⟨by first | rfl | (simp; done) | (simp [*]; done), by repeat (first | exact Drawn0.refl _ | apply Drawn0.step)⟩
end Go.Proofs.Ytfdoncgljohndaa.P
namespace Go.Proofs.Ytfdoncgljohndaa.P
open Go.Proofs.YtfdoncgljohndaaH Go.RowKit Go.Proofs.YtfdoncgljohndaaW.PrintWords Go.Proofs.YtfdoncgljohndaaW.PrintLast Go.Proofs.YtfdoncgljohndaaW.PrintMore
attribute [local go_sem] max2_int min2_int max_two min_two max_three min_three max_four min_four   -- for this text's walks alone
def paroleref32_Keys.l0 : Nat → Int → List Int → Int → Option (List Int)
 | 0, _, _, _ => none
 | k + 1, x0, x3, x4 => if x4 < x0 then ((paroleref03_Words.f k (([x4, 77] : List Int))).bind fun t107 => (if x3.length < 17592186044416 then (paroleref32_Keys.l0 k x0 (x3 ++ [t107]) (wrap64 (x4 + 1))) else (none))) else (some x3)
def paroleref32_Keys.f (k : Nat) (a0 : Int) : Option (List Int) := paroleref32_Keys.l0 k a0 (([] : List Int)) 0
set_option maxHeartbeats 40000000 in
set_option maxRecDepth 100000 in
theorem paroleref32_Keys.calls (k : Nat) (a0 : Int) (r : List Int) (w : World) (h : paroleref32_Keys.f k a0 = some r) :
  Calls Try.prog 30 #[.int .i64 a0] w fun e w' => ∃ v0_ : Value, e = .returned (v0_) ∧ Kd.R (Kd.int .u64) 26 w' w.heap.size (fun _ => True) v0_ r ∧ Below w.heap.size w w' := by
 have HB := aM (Below.refl w.heap.size w)
 have H : (paroleref32_Keys.l0 k a0 (([] : List Int)) 0) = some r := h
 clear h
 obtain ⟨y101, hy101⟩ : ∃ y_ : List Int, y_ = (([] : List Int)) := ⟨_, rfl⟩
 replace H : (paroleref32_Keys.l0 k a0 y101 0) = some r := by first | (rw [hy101]; with_reducible exact H) | (have H2_ := (Option.bind_some _ _).symm.trans H; rw [hy101]; with_reducible exact H2_) | (have H2_ := (Option.bind_some _ _).symm.trans H; with_reducible exact H2_) | with_reducible exact H | (rw [hy101]; exact H) | exact H
 have Ny101 := aM hy101; clear hy101; have H' := aM H; clear H
 go_enter Try.func30, Try.ntmps30
 go_wp2_with (first | ((with_reducible refine gate_dst (N := 5) rfl ?_); refine Kd.R_lit (Kd.int .u64) _ 26 ?hg (N := 5) ?hd (xs := ([] : List Int)) (inner := []) (ok := fun _ => True) (okp := fun _ => True) ?hr ?hp (fun _ hk => hk) trivial (Below.refl _ _) (Nat.le_refl _) (by simp) ?_; (case hd => rfl); (case hg => rfl); (case hr => first | (go_simp; done) | (go_simp; rfl)); (case hp => exact (Reps.none _ _)); intro v102 w2 ho3 hb hg_ hnew_; clear hg_ hnew_; (first | rw [← Ny101.out] at ho3 | (simp only [Int.reduceToNat] at ho3; rw [← Ny101.out] at ho3)); have HO103 := rL (n := 0) ho3 HB; replace HB := sB HB hb; clear hb ho3))
 go_loopg [3, 4] k (fun kq v3 v4 w' => ∃ (x3_1 : List Int) (x4_1 : Int), v4 = .int .i64 x4_1 ∧ Aside0 (paroleref32_Keys.l0 kq a0 x3_1 x4_1 = some r) ∧ Aside0 (kq ≤ k) ∧ Aside0 (Kd.R (Kd.int .u64) 26 w' w.heap.size (fun _ => True) v3 x3_1) ∧ Aside0 (Below w.heap.size w w'))
 case atStart => exact ⟨(y101), (0), (by first | rfl | (simp; done) | (simp [*]; done)), H', ⟨Nat.le_refl _⟩, ⟨by (with_reducible repeat (first | apply Kd.R_alloc | apply Kd.R_drewN | apply Kd.R_drew)); exact HO103.out⟩, ⟨sD HB⟩⟩
 case round =>
  clear H'
  try clear p2
  try clear c3
  obtain ⟨x3_1, x4_1, rfl, HA, HK1, HO_3, HB⟩ := hrel
  cases gk with
  | zero => exact absurd HA.out (by simp [paroleref32_Keys.l0])
  | succ k1 =>
   have H := HA.out; clear HA
   simp only [paroleref32_Keys.l0] at H
   by_cases c4 : x4_1 < a0
   ·rw [if_pos c4] at H
    have c4b0 : decide (x4_1 < a0) = true := decide_eq_true c4
    clear c4
    obtain ⟨y104, hy104⟩ : ∃ y_ : List Int, y_ = (([x4_1, 77] : List Int)) := ⟨_, rfl⟩
    replace H : ((paroleref03_Words.f k1 y104).bind fun t107 => (if x3_1.length < 17592186044416 then (paroleref32_Keys.l0 k1 a0 (x3_1 ++ [t107]) (wrap64 (x4_1 + 1))) else (none))) = some r := by first | (rw [hy104]; with_reducible exact H) | (have H2_ := (Option.bind_some _ _).symm.trans H; rw [hy104]; with_reducible exact H2_) | (have H2_ := (Option.bind_some _ _).symm.trans H; with_reducible exact H2_) | with_reducible exact H | (rw [hy104]; exact H) | exact H
    have Ny104 := aM hy104; clear hy104; replace H := Option.bind_eq_some_iff.mp H
    obtain ⟨t107, A50, H⟩ := H
    replace H : (if x3_1.length < 17592186044416 then (paroleref32_Keys.l0 k1 a0 (x3_1 ++ [t107]) (wrap64 (x4_1 + 1))) else (none)) = some r := H
    have A5 := aM A50; clear A50
    by_cases c6 : x3_1.length < 17592186044416
    ·rw [if_pos c6] at H
     have LMc6 := aM c6; clear c6
     obtain ⟨y108, hy108⟩ : ∃ y_ : List Int, y_ = (x3_1 ++ [t107]) := ⟨_, rfl⟩
     replace H : (paroleref32_Keys.l0 k1 a0 y108 (wrap64 (x4_1 + 1))) = some r := by first | (rw [hy108]; with_reducible exact H) | (have H2_ := (Option.bind_some _ _).symm.trans H; rw [hy108]; with_reducible exact H2_) | (have H2_ := (Option.bind_some _ _).symm.trans H; with_reducible exact H2_) | with_reducible exact H | (rw [hy108]; exact H) | exact H
     have Ny108 := aM hy108; clear hy108; have H' := aM H; clear H
     go_wp2_with (first | ((with_reducible refine gate_dst (N := 13) rfl ?_); refine Kd.R_lit (Kd.int .i64) _ 3 ?hg (N := 13) ?hd (xs := ([x4_1, 77] : List Int)) (inner := [.int .i64 x4_1, .int .i64 77]) (ok := fun _ => True) (okp := fun _ => True) ?hr ?hp (fun _ hk => hk) trivial (Below.refl _ _) (Nat.le_refl _) (by simp) ?_; (case hd => rfl); (case hg => rfl); (case hr => first | (go_simp; done) | (go_simp; rfl)); (case hp => exact (Reps.one (show Kd.M (Kd.int .i64) _ _ _ x4_1 [.int .i64 x4_1] from rfl) (Reps.one (show Kd.M (Kd.int .i64) _ _ _ 77 [.int .i64 77] from rfl) (Reps.none _ _)))); intro v105 w7 ho8 hb hg_ hnew_; clear hg_ hnew_; (first | rw [← Ny104.out] at ho8 | (simp only [Int.reduceToNat] at ho8; rw [← Ny104.out] at ho8)); have HO106 := rL (n := 0) ho8 HB; replace HO_3 := rB HO_3 hb; replace HB := sB HB hb; clear hb ho8; obtain ⟨Ao9, co9, eo9⟩ := Kd.R_slice HO106.out; subst eo9) | ((with_reducible refine gate_callee (f := 35) rfl ?_); refine gL (some 14) Try.func35 #[.slice Ao9 y104.length co9] ?_; (with_reducible refine (paroleref03_Words.calls k1 _ _ y104 t107 _ ?side1 ?side2 A5.out).mono ?_); (case side1 => exact rC HO106); (case side2 => exact rN HO106); rintro e w' ⟨rfl, ⟨nd, rfl⟩⟩; refine ⟨_, rfl, ?_⟩) | ((with_reducible refine gate_builtin (b := .append) (xs := #[.tmp 11, .tmp 15]) rfl ?_); at_builtin; refine Kd.R_append (Kd.int .u64) (w0 := w) w.heap.size rfl (.tmp 11) (.tmp 15) 30 26 (.int .u64 0) 8 rfl Try.underlying30 info26 rfl (by decide) (by omega) u3 x3_1 t107 [.int .u64 t107] (fun _ => True) (fun _ => False) rfl rfl ?aP (fun _ hk => hk.elim) ?aF ?aO ?aB ?aS ?aL ?_; (case aP => exact rfl); (case aB => exact (sD HB)); (case aF => exact (fun _ _ => trivial)); (case aO => exact (rD HO_3)); (case aS => exact (below_size (sD HB))); (case aL => have := LMc6.out; omega); intro v109 w10 ho hb hg hat; rw [← Ny108.out] at ho; have HO110 := aM (ho); replace HO106 := aM (Kd.R_over' (rD HO106) (Kd.R_typed (rD HO_3)) (by decide) hg); replace HB := aM (hb); clear HO_3; clear ho hb hg hat))
     go_roundg k1
     case measure => have := HK1.out; omega
     case rel => exact ⟨(y108), (wrap64 (x4_1 + 1)), (by first | rfl | (simp; done) | (simp [*]; done)), H', ⟨by have := HK1.out; omega⟩, ⟨by (with_reducible repeat (first | apply Kd.R_alloc | apply Kd.R_drewN | apply Kd.R_drew)); exact HO110.out⟩, ⟨sD HB⟩⟩
    ·rw [if_neg c6] at H
     exact absurd H (by simp)
   ·rw [if_neg c4] at H
    have c4b0 : decide (x4_1 < a0) = false := decide_eq_false c4
    clear c4
    obtain rfl := Option.some.inj H
    go_wp2
    go_ret
    exact ⟨_, by first | rfl | (simp [errW_none, errW_some] <;> rfl) | (simp [*, errW_none, errW_some] <;> rfl), by (with_reducible repeat (first | apply Kd.R_alloc | apply Kd.R_drewN | apply Kd.R_drew)); exact HO_3.out, sD HB⟩
end Go.Proofs.Ytfdoncgljohndaa.P
namespace Go.Proofs.Ytfdoncgljohndaa.P
open Go.Proofs.YtfdoncgljohndaaH Go.RowKit Go.Proofs.YtfdoncgljohndaaW.PrintWords Go.Proofs.YtfdoncgljohndaaW.PrintLast Go.Proofs.YtfdoncgljohndaaW.PrintMore
attribute [local go_sem] max2_int min2_int max_two min_two max_three min_three max_four min_four   -- for this text's walks alone
def paroleref03_Join.f (a0 : Int) (a1 : Int) : Option (Int) := (paroleref03_Step.f 11820040416388919760 a0).bind fun t101 => ((paroleref03_Step.f t101 a1).bind fun t102 => (some t102))
set_option maxHeartbeats 40000000 in
set_option maxRecDepth 100000 in
theorem paroleref03_Join.calls (a0 : Int) (a1 : Int) (r : Int) (w : World) (h : paroleref03_Join.f a0 a1 = some r) :
  Calls Try.prog 34 #[.int .u64 a0, .int .u64 a1] w fun e w' => e = .returned (.int .u64 r) ∧ Drawn0 w w' := by
 have H : ((paroleref03_Step.f 11820040416388919760 a0).bind fun t101 => ((paroleref03_Step.f t101 a1).bind fun t102 => (some t102))) = some r := h
 clear h; replace H := Option.bind_eq_some_iff.mp H
 obtain ⟨t101, A30, H⟩ := H
 replace H : ((paroleref03_Step.f t101 a1).bind fun t102 => (some t102)) = some r := H
 have A3 := aM A30; clear A30; replace H := Option.bind_eq_some_iff.mp H
 obtain ⟨t102, A40, H⟩ := H
 replace H : (some t102) = some r := H
 have A4 := aM A40; clear A40
 obtain rfl := Option.some.inj H
 go_enter Try.func34, Try.ntmps34
 go_wp2_with (first | ((with_reducible refine gate_callee (f := 52) rfl ?_); refine gL (some 6) Try.func52 #[.int .u64 11820040416388919760, .int .u64 a0] ?_; (with_reducible refine (paroleref03_Step.calls 11820040416388919760 a0 t101 _ A3.out).mono ?_); rintro e w' ⟨rfl, ⟨nd, rfl⟩⟩; refine ⟨_, rfl, ?_⟩) | ((with_reducible refine gate_callee (f := 52) rfl ?_); refine gL (some 8) Try.func52 #[.int .u64 t101, .int .u64 a1] ?_; (with_reducible refine (paroleref03_Step.calls t101 a1 t102 _ A4.out).mono ?_); rintro e w' ⟨rfl, ⟨nd, rfl⟩⟩; refine ⟨_, rfl, ?_⟩))
 go_ret
 exact ⟨by first | rfl | (simp; done) | (simp [*]; done), by repeat (first | exact Drawn0.refl _ | apply Drawn0.step)⟩
end Go.Proofs.Ytfdoncgljohndaa.P
namespace Go.Proofs.Ytfdoncgljohndaa.P
open Go.Proofs.YtfdoncgljohndaaH Go.RowKit Go.Proofs.YtfdoncgljohndaaW.PrintWords Go.Proofs.YtfdoncgljohndaaW.PrintLast Go.Proofs.YtfdoncgljohndaaW.PrintMore
attribute [local go_sem] max2_int min2_int max_two min_two max_three min_three max_four min_four   -- for this text's walks alone
def paroleref32_Tag.f (k : Nat) (a0 : Int) (a1_0 : Int) (a1_1 : Int) (a1_2 : Int) (a1_3 : Int) (a1_4 : Int) (a1_5 : Int) (a1_6 : Int) : Option (Int) := (paroleref03_Words.f k (([a1_0, a1_1, a1_2, a1_3, a1_4, a1_5] : List Int))).bind fun t105 => ((paroleref03_Join.f a0 t105).bind fun t106 => (some t106))
set_option maxHeartbeats 40000000 in
set_option maxRecDepth 100000 in
theorem paroleref32_Tag.calls (k : Nat) (a0 : Int) (a1_0 : Int) (a1_1 : Int) (a1_2 : Int) (a1_3 : Int) (a1_4 : Int) (a1_5 : Int) (a1_6 : Int) (r : Int) (w : World) (h : paroleref32_Tag.f k a0 a1_0 a1_1 a1_2 a1_3 a1_4 a1_5 a1_6 = some r) :
  Calls Try.prog 15 #[.int .u64 a0, .agg #[.int .i64 a1_0, .int .i64 a1_1, .int .i64 a1_2, .int .i64 a1_3, .int .i64 a1_4, .int .i64 a1_5, .int .u64 a1_6]] w fun e w' => e = .returned (.int .u64 r) ∧ Below w.heap.size w w' := by
 have hu28 := Try.underlying28; have HB := aM (Below.refl w.heap.size w)
 have H : ((paroleref03_Words.f k (([a1_0, a1_1, a1_2, a1_3, a1_4, a1_5] : List Int))).bind fun t105 => ((paroleref03_Join.f a0 t105).bind fun t106 => (some t106))) = some r := h
 clear h
 obtain ⟨y102, hy102⟩ : ∃ y_ : List Int, y_ = (([a1_0, a1_1, a1_2, a1_3, a1_4, a1_5] : List Int)) := ⟨_, rfl⟩
 replace H : ((paroleref03_Words.f k y102).bind fun t105 => ((paroleref03_Join.f a0 t105).bind fun t106 => (some t106))) = some r := by first | (rw [hy102]; with_reducible exact H) | (have H2_ := (Option.bind_some _ _).symm.trans H; rw [hy102]; with_reducible exact H2_) | (have H2_ := (Option.bind_some _ _).symm.trans H; with_reducible exact H2_) | with_reducible exact H | (rw [hy102]; exact H) | exact H
 have Ny102 := aM hy102; clear hy102; replace H := Option.bind_eq_some_iff.mp H
 obtain ⟨t105, A30, H⟩ := H
 replace H : ((paroleref03_Join.f a0 t105).bind fun t106 => (some t106)) = some r := H
 have A3 := aM A30; clear A30; replace H := Option.bind_eq_some_iff.mp H
 obtain ⟨t106, A40, H⟩ := H
 replace H : (some t106) = some r := H
 have A4 := aM A40; clear A40
 obtain rfl := Option.some.inj H
 go_enter Try.func15, Try.ntmps15
 go_wp2_with (first | ((with_reducible refine gate_dst (N := 3) rfl ?_); refine bE (N := 3) (cs := #[.int .i64 a1_0, .int .i64 a1_1, .int .i64 a1_2, .int .i64 a1_3, .int .i64 a1_4, .int .i64 a1_5, .int .u64 a1_6]) (t := 28) ?_; intro gb101 hg w5 hbox hb; have BK101 := aM (hbox); have GW101 := gE hg HB; have GE101 := gE hg HB; replace HB := sB HB hb; clear hb hbox hg; obtain ⟨hcz6_0, hcz6_1, hcz6_2, hcz6_3, hcz6_4, hcz6_5, hcz6_6, hfz6_0, hfz6_1, hfz6_2, hfz6_3, hfz6_4, hfz6_5, hfz6_6⟩ := cZ7 BK101) | ((with_reducible refine gate_dst (N := 18) rfl ?_); refine Kd.R_lit (Kd.int .i64) _ 3 ?hg (N := 18) ?hd (xs := ([a1_0, a1_1, a1_2, a1_3, a1_4, a1_5] : List Int)) (inner := [.int .i64 a1_0, .int .i64 a1_1, .int .i64 a1_2, .int .i64 a1_3, .int .i64 a1_4, .int .i64 a1_5]) (ok := fun _ => True) (okp := fun _ => True) ?hr ?hp (fun _ hk => hk) trivial (Below.refl _ _) (Nat.le_refl _) (by simp) ?_; (case hd => rfl); (case hg => rfl); (case hr => first | (go_simp; done) | (go_simp; rfl)); (case hp => exact (Reps.one (show Kd.M (Kd.int .i64) _ _ _ a1_0 [.int .i64 a1_0] from rfl) (Reps.one (show Kd.M (Kd.int .i64) _ _ _ a1_1 [.int .i64 a1_1] from rfl) (Reps.one (show Kd.M (Kd.int .i64) _ _ _ a1_2 [.int .i64 a1_2] from rfl) (Reps.one (show Kd.M (Kd.int .i64) _ _ _ a1_3 [.int .i64 a1_3] from rfl) (Reps.one (show Kd.M (Kd.int .i64) _ _ _ a1_4 [.int .i64 a1_4] from rfl) (Reps.one (show Kd.M (Kd.int .i64) _ _ _ a1_5 [.int .i64 a1_5] from rfl) (Reps.none _ _)))))))); intro v103 w7 ho8 hb hg_ hnew_; clear hg_ hnew_; (first | rw [← Ny102.out] at ho8 | (simp only [Int.reduceToNat] at ho8; rw [← Ny102.out] at ho8)); have HO104 := rL (n := 0) ho8 HB; replace BK101 := bB BK101 hb; replace HB := sB HB hb; clear hb ho8; obtain ⟨Ao9, co9, eo9⟩ := Kd.R_slice HO104.out; subst eo9) | ((with_reducible refine gate_callee (f := 35) rfl ?_); refine gL (some 19) Try.func35 #[.slice Ao9 y102.length co9] ?_; (with_reducible refine (paroleref03_Words.calls k _ _ y102 t105 _ ?side1 ?side2 A3.out).mono ?_); (case side1 => exact rC HO104); (case side2 => exact rN HO104); rintro e w' ⟨rfl, ⟨nd, rfl⟩⟩; refine ⟨_, rfl, ?_⟩) | ((with_reducible refine gate_callee (f := 34) rfl ?_); refine gL (some 20) Try.func34 #[.int .u64 a0, .int .u64 t105] ?_; (with_reducible refine (paroleref03_Join.calls a0 t105 t106 _ A4.out).mono ?_); rintro e w' ⟨rfl, ⟨nd, rfl⟩⟩; refine ⟨_, rfl, ?_⟩))
 go_ret
 exact ⟨by first | rfl | (simp [errW_none, errW_some] <;> rfl) | (simp [*, errW_none, errW_some] <;> rfl), sD HB⟩
end Go.Proofs.Ytfdoncgljohndaa.P
namespace Go.Proofs.Ytfdoncgljohndaa.P
open Go.Proofs.YtfdoncgljohndaaH Go.RowKit Go.Proofs.YtfdoncgljohndaaW.PrintWords Go.Proofs.YtfdoncgljohndaaW.PrintLast Go.Proofs.YtfdoncgljohndaaW.PrintMore
attribute [local go_sem] max2_int min2_int max_two min_two max_three min_three max_four min_four   -- for this text's walks alone
attribute [local go_sem] Go.Proofs.YtfdoncgljohndaaH.cell_set_map
def paroleref32_Sign.f (k : Nat) (a0 : Int) (a1_0 : Int) (a1_1 : Int) (a1_2 : Int) (a1_3 : Int) (a1_4 : Int) (a1_5 : Int) (a1_6 : Int) : Option (Int × Int × Int × Int × Int × Int × Int) := (paroleref32_Tag.f k a0 a1_0 a1_1 a1_2 a1_3 a1_4 a1_5 a1_6).bind fun t103 => (some (a1_0, a1_1, a1_2, a1_3, a1_4, a1_5, t103))
set_option maxHeartbeats 40000000 in
set_option maxRecDepth 100000 in
theorem paroleref32_Sign.calls (k : Nat) (a0 : Int) (a1_0 : Int) (a1_1 : Int) (a1_2 : Int) (a1_3 : Int) (a1_4 : Int) (a1_5 : Int) (a1_6 : Int) (r1 : Int) (r2 : Int) (r3 : Int) (r4 : Int) (r5 : Int) (r6 : Int) (r7 : Int) (w : World) (h : paroleref32_Sign.f k a0 a1_0 a1_1 a1_2 a1_3 a1_4 a1_5 a1_6 = some (r1, r2, r3, r4, r5, r6, r7)) :
  Calls Try.prog 16 #[.int .u64 a0, .agg #[.int .i64 a1_0, .int .i64 a1_1, .int .i64 a1_2, .int .i64 a1_3, .int .i64 a1_4, .int .i64 a1_5, .int .u64 a1_6]] w fun e w' => e = .returned (.agg #[.int .i64 r1, .int .i64 r2, .int .i64 r3, .int .i64 r4, .int .i64 r5, .int .i64 r6, .int .u64 r7]) ∧ Below w.heap.size w w' := by
 have hu28 := Try.underlying28; have HB := aM (Below.refl w.heap.size w)
 have H : ((paroleref32_Tag.f k a0 a1_0 a1_1 a1_2 a1_3 a1_4 a1_5 a1_6).bind fun t103 => (some (a1_0, a1_1, a1_2, a1_3, a1_4, a1_5, t103))) = some (r1, r2, r3, r4, r5, r6, r7) := h
 clear h; replace H := Option.bind_eq_some_iff.mp H
 obtain ⟨t103, A30, H⟩ := H
 replace H : (some (a1_0, a1_1, a1_2, a1_3, a1_4, a1_5, t103)) = some (r1, r2, r3, r4, r5, r6, r7) := H
 have A3 := aM A30; clear A30
 simp only [Option.some.injEq, Prod.mk.injEq] at H
 obtain ⟨rfl, rfl, rfl, rfl, rfl, rfl, rfl⟩ := H
 go_enter Try.func16, Try.ntmps16
 go_wp2_with (first | ((with_reducible refine gate_dst (N := 3) rfl ?_); refine bE (N := 3) (cs := #[.int .i64 a1_0, .int .i64 a1_1, .int .i64 a1_2, .int .i64 a1_3, .int .i64 a1_4, .int .i64 a1_5, .int .u64 a1_6]) (t := 28) ?_; intro gb101 hg w4 hbox hb; have BK101 := aM (hbox); have GW101 := gE hg HB; have GE101 := gE hg HB; replace HB := sB HB hb; clear hb hbox hg) | ((with_reducible refine gate_dst (N := 4) rfl ?_); refine bE (N := 4) (cs := #[.int .i64 0, .int .i64 0, .int .i64 0, .int .i64 0, .int .i64 0, .int .i64 0, .int .u64 0]) (t := 28) ?_; intro gb102 hg w5 hbox hb; have BK102 := aM (hbox); have GW102 := gE hg HB; have GE102 := gE hg HB; have NB101_102 := nL hg BK101; replace BK101 := bB BK101 hb; replace HB := sB HB hb; clear hb hbox hg; have hnb6 := NB101_102.out; have hnc6 := NB101_102.out.symm; obtain ⟨hcz7_0, hcz7_1, hcz7_2, hcz7_3, hcz7_4, hcz7_5, hcz7_6, hfz7_0, hfz7_1, hfz7_2, hfz7_3, hfz7_4, hfz7_5, hfz7_6⟩ := cZ7 BK101) | ((with_reducible refine gate_callee (f := 15) rfl ?_); refine gL (some 7) Try.func15 #[.int .u64 a0, .agg #[.int .i64 a1_0, .int .i64 a1_1, .int .i64 a1_2, .int .i64 a1_3, .int .i64 a1_4, .int .i64 a1_5, .int .u64 a1_6]] ?_; (with_reducible refine (paroleref32_Tag.calls k a0 a1_0 a1_1 a1_2 a1_3 a1_4 a1_5 a1_6 t103 _ A3.out).mono ?_); rintro e w8 ⟨rfl, hb⟩; refine ⟨_, rfl, ?_⟩; replace BK101 := bB BK101 hb; replace BK102 := bB BK102 hb; replace HB := sB HB hb; (try clear hb); obtain ⟨hcz9_0, hcz9_1, hcz9_2, hcz9_3, hcz9_4, hcz9_5, hcz9_6, hfz9_0, hfz9_1, hfz9_2, hfz9_3, hfz9_4, hfz9_5, hfz9_6⟩ := cZ7 BK101; obtain ⟨hcz10_0, hcz10_1, hcz10_2, hcz10_3, hcz10_4, hcz10_5, hcz10_6, hfz10_0, hfz10_1, hfz10_2, hfz10_3, hfz10_4, hfz10_5, hfz10_6⟩ := cZ7 BK102))
 refine bodyPost_ret (results_cell_row rfl _ _ gb102 28 #[.int .i64 a1_0, .int .i64 a1_1, .int .i64 a1_2, .int .i64 a1_3, .int .i64 a1_4, .int .i64 a1_5, .int .u64 t103] (0, 0) _ rfl (by refine bM ?_; refine blk_put (cs := #[.int .i64 a1_0, .int .i64 a1_1, .int .i64 a1_2, .int .i64 a1_3, .int .i64 a1_4, .int .i64 a1_5, .int .u64 0]) ?_ 6 _ rfl; refine bM ?_; refine blk_put (cs := #[.int .i64 a1_0, .int .i64 a1_1, .int .i64 a1_2, .int .i64 a1_3, .int .i64 a1_4, .int .i64 0, .int .u64 0]) ?_ 5 _ rfl; refine bM ?_; refine blk_put (cs := #[.int .i64 a1_0, .int .i64 a1_1, .int .i64 a1_2, .int .i64 a1_3, .int .i64 0, .int .i64 0, .int .u64 0]) ?_ 4 _ rfl; refine bM ?_; refine blk_put (cs := #[.int .i64 a1_0, .int .i64 a1_1, .int .i64 a1_2, .int .i64 0, .int .i64 0, .int .i64 0, .int .u64 0]) ?_ 3 _ rfl; refine bM ?_; refine blk_put (cs := #[.int .i64 a1_0, .int .i64 a1_1, .int .i64 0, .int .i64 0, .int .i64 0, .int .i64 0, .int .u64 0]) ?_ 2 _ rfl; refine bM ?_; refine blk_put (cs := #[.int .i64 a1_0, .int .i64 0, .int .i64 0, .int .i64 0, .int .i64 0, .int .i64 0, .int .u64 0]) ?_ 1 _ rfl; refine bM ?_; refine blk_put (cs := #[.int .i64 0, .int .i64 0, .int .i64 0, .int .i64 0, .int .i64 0, .int .i64 0, .int .u64 0]) ?_ 0 _ rfl; refine bM ?_; refine blk_far ?_ NB101_102.out.symm _; exact bD BK102) Try.underlying28 rfl (by kernel_rfl)) rfl ?_
 exact ⟨by first | rfl | (simp [errW_none, errW_some] <;> rfl) | (simp [*, errW_none, errW_some] <;> rfl), sD HB⟩
end Go.Proofs.Ytfdoncgljohndaa.P
namespace Go.Proofs.Ytfdoncgljohndaa.P
open Go.Proofs.YtfdoncgljohndaaH Go.RowKit Go.Proofs.YtfdoncgljohndaaW.PrintWords Go.Proofs.YtfdoncgljohndaaW.PrintLast Go.Proofs.YtfdoncgljohndaaW.PrintMore
attribute [local go_sem] max2_int min2_int max_two min_two max_three min_three max_four min_four   -- for this text's walks alone
attribute [local go_sem] Go.Proofs.YtfdoncgljohndaaH.cell_set_map
def paroleref32_Made.f (k : Nat) (l0 : List Int) (a1_0 : Int) (a1_1 : Int) (a1_2 : Int) (a1_3 : Int) (a1_4 : Int) (a1_5 : Int) : Option (Int × Int × Int × Int × Int × Int × Int) := if (l0.length : Int) = 0 then (none) else (if 0 ≤ (Int.tmod (wrap64 (a1_0)) (l0.length : Int)) then (if (Int.tmod (wrap64 (a1_0)) (l0.length : Int)) < (l0.length : Int) then ((paroleref32_Sign.f k (rd l0 (Int.tmod (wrap64 (a1_0)) (l0.length : Int))) (Int.tmod (wrap64 (a1_0)) (l0.length : Int)) (wrap64 (1 + (wrap64 (Int.tmod a1_1 12)))) (wrap64 (1 + (wrap64 (Int.tmod a1_2 3)))) (wrap64 ((wrap64 ((wrap64 (Int.tdiv (wrap64 (a1_3)) 200)) + (wrap64 (Int.tmod a1_4 50)))) + (wrap64 (a1_5)))) (wrap64 ((wrap64 (Int.tdiv (wrap64 (a1_3)) 200)) + (wrap64 (Int.tmod a1_4 50)))) (wrap64 (Int.tdiv (wrap64 (a1_3)) 200)) 0).bind fun bt105 => (some (bt105.1, bt105.2.1, bt105.2.2.1, bt105.2.2.2.1, bt105.2.2.2.2.1, bt105.2.2.2.2.2.1, bt105.2.2.2.2.2.2))) else (none)) else (none))
def paroleref32_Made.T1 : Bool × List (List Nat × List Nat) := (true, [([], []), ([0], [0]), ([1], [1]), ([2], [2]), ([], []), ([4], [4]), ([3, 5], [3, 5]), ([], []), ([7], [7]), ([8], [8]), ([9], [9]), ([10], [10]), ([11], [11]), ([], []), ([13], [13]), ([14], [14]), ([15], [15]), ([16], [16]), ([17], [17]), ([], []), ([19], [19]), ([20], [20]), ([21], [21]), ([22], [22]), ([6, 12, 18, 23], [6, 12, 18, 23]), ([], []), ([25, 24, 0, 1, 2, 3, 4, 5, 6, 7, 8, 9, 10, 11, 12, 13, 14, 15, 16, 17, 18, 19, 20, 21, 22, 23, 24, 25], [24, 25])])
def paroleref32_Made.B1 : List Nat := [0, 1, 3, 7, 0, 16, 63, 0, 128, 384, 896, 1920, 3968, 0, 8192, 24576, 57344, 122880, 253952, 0, 524288, 1572864, 3670016, 7864320, 16777215, 0, 67108863]
theorem paroleref32_Made.tab1 : rtab .any (opsOf Try.f23 1) = paroleref32_Made.T1 := by kernel_rfl
theorem paroleref32_Made.bits1 : waitsOk paroleref32_Made.T1.2 paroleref32_Made.B1 = true := by kernel_rfl
def paroleref32_Made.T4 : Bool × List (List Nat × List Nat) := (true, [([], []), ([], []), ([1], [1]), ([0, 2], [0, 2]), ([3], [3]), ([], []), ([4, 5], [4, 5]), ([6, 6, 0, 1, 2, 3, 4, 5, 6], [6])])
def paroleref32_Made.B4 : List Nat := [0, 0, 2, 7, 15, 0, 63, 127]
theorem paroleref32_Made.tab4 : rtab .any (opsOf Try.f23 4) = paroleref32_Made.T4 := by kernel_rfl
theorem paroleref32_Made.bits4 : waitsOk paroleref32_Made.T4.2 paroleref32_Made.B4 = true := by kernel_rfl
set_option maxHeartbeats 40000000 in
set_option maxRecDepth 100000 in
theorem paroleref32_Made.calls (k : Nat) (A0 : Option Addr) (c0 : Nat) (l0 : List Int) (a1_0 : Int) (a1_1 : Int) (a1_2 : Int) (a1_3 : Int) (a1_4 : Int) (a1_5 : Int) (r1 : Int) (r2 : Int) (r3 : Int) (r4 : Int) (r5 : Int) (r6 : Int) (r7 : Int) (w : World) (hr0 : Kd.C (Kd.int .u64) w A0 l0.length l0) (hc0 : l0.length ≤ c0) (h : paroleref32_Made.f k l0 a1_0 a1_1 a1_2 a1_3 a1_4 a1_5 = some (r1, r2, r3, r4, r5, r6, r7)) :
  Calls Try.prog 23 #[.slice A0 l0.length c0, .agg #[.int .u8 a1_0, .int .u8 a1_1, .int .u8 a1_2, .int .u8 a1_3, .int .u8 a1_4, .int .u8 a1_5]] w fun e w' => e = .returned (.agg #[.int .i64 r1, .int .i64 r2, .int .i64 r3, .int .i64 r4, .int .i64 r5, .int .i64 r6, .int .u64 r7]) ∧ Below w.heap.size w w' := by
 have hu58 := Try.underlying58; have hu28 := Try.underlying28; have HR0 := aM hr0; have HC0 := aM hc0; clear hr0 hc0; have HB := aM (Below.refl w.heap.size w)
 have H : (if (l0.length : Int) = 0 then (none) else (if 0 ≤ (Int.tmod (wrap64 (a1_0)) (l0.length : Int)) then (if (Int.tmod (wrap64 (a1_0)) (l0.length : Int)) < (l0.length : Int) then ((paroleref32_Sign.f k (rd l0 (Int.tmod (wrap64 (a1_0)) (l0.length : Int))) (Int.tmod (wrap64 (a1_0)) (l0.length : Int)) (wrap64 (1 + (wrap64 (Int.tmod a1_1 12)))) (wrap64 (1 + (wrap64 (Int.tmod a1_2 3)))) (wrap64 ((wrap64 ((wrap64 (Int.tdiv (wrap64 (a1_3)) 200)) + (wrap64 (Int.tmod a1_4 50)))) + (wrap64 (a1_5)))) (wrap64 ((wrap64 (Int.tdiv (wrap64 (a1_3)) 200)) + (wrap64 (Int.tmod a1_4 50)))) (wrap64 (Int.tdiv (wrap64 (a1_3)) 200)) 0).bind fun bt105 => (some (bt105.1, bt105.2.1, bt105.2.2.1, bt105.2.2.2.1, bt105.2.2.2.2.1, bt105.2.2.2.2.2.1, bt105.2.2.2.2.2.2))) else (none)) else (none))) = some (r1, r2, r3, r4, r5, r6, r7) := h
 clear h
 by_cases c3 : (l0.length : Int) = 0
 ·rw [if_pos c3] at H
  exact absurd H (by simp)
 rw [if_neg c3] at H
 have c3b0 : ((l0.length : Int) == 0) = false := beq_eq_false_iff_ne.mpr c3
 have c3b1 : ((l0.length : Int) != 0) = true := bne_iff_ne.mpr c3
 have c3b2 : ¬ (l0 = []) := fun h_ => c3 (by rw [h_]; rfl)
 obtain ⟨ji4, hji4⟩ : ∃ j_ : Int, (Int.tmod (wrap64 (a1_0)) (l0.length : Int)) = j_ := ⟨_, rfl⟩
 replace H : (if 0 ≤ (ji4) then (if (ji4) < (l0.length : Int) then ((paroleref32_Sign.f k (rd l0 (ji4)) (ji4) (wrap64 (1 + (wrap64 (Int.tmod a1_1 12)))) (wrap64 (1 + (wrap64 (Int.tmod a1_2 3)))) (wrap64 ((wrap64 ((wrap64 (Int.tdiv (wrap64 (a1_3)) 200)) + (wrap64 (Int.tmod a1_4 50)))) + (wrap64 (a1_5)))) (wrap64 ((wrap64 (Int.tdiv (wrap64 (a1_3)) 200)) + (wrap64 (Int.tmod a1_4 50)))) (wrap64 (Int.tdiv (wrap64 (a1_3)) 200)) 0).bind fun bt105 => (some (bt105.1, bt105.2.1, bt105.2.2.1, bt105.2.2.2.1, bt105.2.2.2.2.1, bt105.2.2.2.2.2.1, bt105.2.2.2.2.2.2))) else (none)) else (none)) = some (r1, r2, r3, r4, r5, r6, r7) := by first | (rw [hji4] at H; exact H) | (simp only [hji4] at H ⊢; exact H)
 by_cases c5 : 0 ≤ (ji4)
 rotate_left
 ·rw [if_neg c5] at H
  exact absurd H (by simp)
 rw [if_pos c5] at H
 have c5b0 : decide (0 ≤ (ji4)) = true := decide_eq_true c5
 clear c5
 by_cases c6 : (ji4) < (l0.length : Int)
 rotate_left
 ·rw [if_neg c6] at H
  exact absurd H (by simp)
 rw [if_pos c6] at H
 have c6b0 : decide ((ji4) < (l0.length : Int)) = true := decide_eq_true c6
 clear c6; replace H := Option.bind_eq_some_iff.mp H
 obtain ⟨⟨t105, t106, t107, t108, t109, t110, t111⟩, A70, H⟩ := H
 replace H : (some (t105, t106, t107, t108, t109, t110, t111)) = some (r1, r2, r3, r4, r5, r6, r7) := H
 have A7 := aM A70; clear A70
 simp only [Option.some.injEq, Prod.mk.injEq] at H
 obtain ⟨rfl, rfl, rfl, rfl, rfl, rfl, rfl⟩ := H
 go_enter Try.func23, Try.ntmps23
 try go_wp2_with (first | ((with_reducible refine gate_dst (N := 3) rfl ?_); refine bE (N := 3) (cs := #[.int .u8 a1_0, .int .u8 a1_1, .int .u8 a1_2, .int .u8 a1_3, .int .u8 a1_4, .int .u8 a1_5]) (t := 58) ?_; intro gb101 hg w8 hbox hb; have BK101 := aM (hbox); have GW101 := gE hg HB; have GE101 := gE hg HB; replace HB := sB HB hb; clear hb hbox hg) | ((with_reducible refine gate_dst (N := 4) rfl ?_); refine bE (N := 4) (cs := #[.int .i64 0, .int .i64 0, .int .i64 0, .int .i64 0, .int .i64 0, .int .i64 0, .int .u64 0]) (t := 28) ?_; intro gb102 hg w9 hbox hb; have BK102 := aM (hbox); have GW102 := gE hg HB; have GE102 := gE hg HB; have NB101_102 := nL hg BK101; replace BK101 := bB BK101 hb; replace HB := sB HB hb; clear hb hbox hg))
 replace BK101 := aM (blk_drew BK101.out); replace BK102 := aM (blk_drew BK102.out); replace HB := aM (below_drew1 HB.out)
 refine start_ (n := 27) (S := fun w' => w'.cell? ⟨gb101, 0, none⟩ = some (.int .u8 a1_0) ∧ w'.cell? ⟨gb101, 1, none⟩ = some (.int .u8 a1_1) ∧ w'.cell? ⟨gb101, 2, none⟩ = some (.int .u8 a1_2) ∧ w'.cell? ⟨gb101, 3, none⟩ = some (.int .u8 a1_3) ∧ w'.cell? ⟨gb101, 4, none⟩ = some (.int .u8 a1_4) ∧ w'.cell? ⟨gb101, 5, none⟩ = some (.int .u8 a1_5)) (ds := []) #[false, false, false, false, false, false, false, false, false, false, false, false, false, false, false, false, false, false, false, false, false, false, false, false, false, false, false] (by kernel_rfl) rfl rfl ⟨cE BK101 0, cE BK101 1, cE BK101 2, cE BK101 3, cE BK101 4, cE BK101 5⟩ (fun hHeld => ?_); refine with_tabW paroleref32_Made.tab1 paroleref32_Made.bits1 (fun HT_ HW_ => ?_)
 generalize w9.drew = w10 at BK101 BK102 HB hHeld ⊢
 refine pX (i := 0) (N := some 6) rfl rfl HT_ ?_
 refine pX (i := 1) (N := some 7) rfl rfl HT_ ?_
 refine pX (i := 4) (N := some 10) rfl rfl HT_ ?_
 refine pX (i := 5) (N := some 11) rfl rfl HT_ ?_
 refine pX (i := 7) (N := some 13) rfl rfl HT_ ?_
 refine pX (i := 8) (N := some 14) rfl rfl HT_ ?_
 refine pX (i := 13) (N := some 19) rfl rfl HT_ ?_
 refine pX (i := 14) (N := some 20) rfl rfl HT_ ?_
 refine pX (i := 19) (N := some 25) rfl rfl HT_ ?_
 refine pX (i := 20) (N := some 26) rfl rfl HT_ ?_
 refine tX (i := 2) (N := some 8) rfl rfl HT_ HW_ hHeld (Or.inl ⟨by rfl, by rintro w' ⟨s0, s1, s2, s3, s4, s5⟩; go_simp; with_reducible rfl⟩) ?_
 refine pX (i := 3) (N := some 9) rfl rfl HT_ ?_
 refine pX (i := 6) (N := some 12) rfl rfl HT_ ?_
 refine tX (i := 9) (N := some 15) rfl rfl HT_ HW_ hHeld (Or.inl ⟨by rfl, by rintro w' ⟨s0, s1, s2, s3, s4, s5⟩; go_simp; with_reducible rfl⟩) ?_
 refine pX (i := 10) (N := some 16) rfl rfl HT_ ?_
 refine pX (i := 11) (N := some 17) rfl rfl HT_ ?_
 refine pX (i := 12) (N := some 18) rfl rfl HT_ ?_
 refine tX (i := 15) (N := some 21) rfl rfl HT_ HW_ hHeld (Or.inl ⟨by rfl, by rintro w' ⟨s0, s1, s2, s3, s4, s5⟩; go_simp; with_reducible rfl⟩) ?_
 refine pX (i := 16) (N := some 22) rfl rfl HT_ ?_
 refine pX (i := 17) (N := some 23) rfl rfl HT_ ?_
 refine pX (i := 18) (N := some 24) rfl rfl HT_ ?_
 refine tX (i := 21) (N := some 27) rfl rfl HT_ HW_ hHeld (Or.inl ⟨by rfl, by rintro w' ⟨s0, s1, s2, s3, s4, s5⟩; go_simp; with_reducible rfl⟩) ?_
 refine pX (i := 22) (N := some 28) rfl rfl HT_ ?_
 refine pX (i := 23) (N := some 29) rfl rfl HT_ ?_
 refine pX (i := 24) (N := some 30) rfl rfl HT_ ?_
 refine oX (i := 25) (N := some 5) rfl rfl HT_ (fun K hK => ?_)
 refine bS (N := 5) (cs := #[.int .i64 0, .int .i64 0, .int .i64 0, .int .i64 0, .int .i64 0, .int .i64 0, .int .u64 0]) (t := 28) ?_
 intro gb103 hg w11 hbox hb
 have BK103 := aM (hbox); have GW103 := gE hg HB; have GE103 := gE hg HB; have NB101_103 := nL hg BK101; have NB102_103 := nL hg BK102; replace BK101 := bB BK101 hb; replace BK102 := bB BK102 hb; replace HB := sB HB hb; clear hb hbox hg
 refine hK.out _ _ ⟨cE BK101 0, cE BK101 1, cE BK101 2, cE BK101 3, cE BK101 4, cE BK101 5⟩ (fun hHeld => ?_)
 clear hK K
 refine nX (some 5) ?_
 refine oX (i := 26) (N := none) rfl rfl HT_ (fun K hK => ?_)
 have hs12 : w11.cell? ⟨gb103, 0, none⟩ = some (.int .i64 0) := (blk_cell BK103.out 0).trans rfl
 have hfs12 := blk_frozen BK103.out 0; have hns12_0 := NB101_103.out; have hns12_1 := NB102_103.out; have hms12_0 := NB101_103.out.symm; have hms12_1 := NB102_103.out.symm
 have hs13 : w11.cell? ⟨gb103, 1, none⟩ = some (.int .i64 0) := (blk_cell BK103.out 1).trans rfl
 have hfs13 := blk_frozen BK103.out 1; have hns13_0 := NB101_103.out; have hns13_1 := NB102_103.out; have hms13_0 := NB101_103.out.symm; have hms13_1 := NB102_103.out.symm
 have hs14 : w11.cell? ⟨gb103, 2, none⟩ = some (.int .i64 0) := (blk_cell BK103.out 2).trans rfl
 have hfs14 := blk_frozen BK103.out 2; have hns14_0 := NB101_103.out; have hns14_1 := NB102_103.out; have hms14_0 := NB101_103.out.symm; have hms14_1 := NB102_103.out.symm
 have hs15 : w11.cell? ⟨gb103, 3, none⟩ = some (.int .i64 0) := (blk_cell BK103.out 3).trans rfl
 have hfs15 := blk_frozen BK103.out 3; have hns15_0 := NB101_103.out; have hns15_1 := NB102_103.out; have hms15_0 := NB101_103.out.symm; have hms15_1 := NB102_103.out.symm
 have hs16 : w11.cell? ⟨gb103, 4, none⟩ = some (.int .i64 0) := (blk_cell BK103.out 4).trans rfl
 have hfs16 := blk_frozen BK103.out 4; have hns16_0 := NB101_103.out; have hns16_1 := NB102_103.out; have hms16_0 := NB101_103.out.symm; have hms16_1 := NB102_103.out.symm
 have hs17 : w11.cell? ⟨gb103, 5, none⟩ = some (.int .i64 0) := (blk_cell BK103.out 5).trans rfl
 have hfs17 := blk_frozen BK103.out 5; have hns17_0 := NB101_103.out; have hns17_1 := NB102_103.out; have hms17_0 := NB101_103.out.symm; have hms17_1 := NB102_103.out.symm
 have hs18 : w11.cell? ⟨gb103, 6, none⟩ = some (.int .u64 0) := (blk_cell BK103.out 6).trans rfl
 have hfs18 := blk_frozen BK103.out 6; have hns18_0 := NB101_103.out; have hns18_1 := NB102_103.out; have hms18_0 := NB101_103.out.symm; have hms18_1 := NB102_103.out.symm
 refine skip_ (w1 := ?_) (by rfl) rfl ?_ ?_
 rotate_left
 ·go_simp
  rfl
 refine hK.out _ _ ⟨((cell_far (p := ⟨gb103, _, none⟩) NB101_103.out _).trans (((cell_far (p := ⟨gb103, _, none⟩) NB101_103.out _).trans (((cell_far (p := ⟨gb103, _, none⟩) NB101_103.out _).trans (((cell_far (p := ⟨gb103, _, none⟩) NB101_103.out _).trans (((cell_far (p := ⟨gb103, _, none⟩) NB101_103.out _).trans (((cell_far (p := ⟨gb103, _, none⟩) NB101_103.out _).trans (((cell_far (p := ⟨gb103, _, none⟩) NB101_103.out _).trans (hHeld.1)))))))))))))), ((cell_far (p := ⟨gb103, _, none⟩) NB101_103.out _).trans (((cell_far (p := ⟨gb103, _, none⟩) NB101_103.out _).trans (((cell_far (p := ⟨gb103, _, none⟩) NB101_103.out _).trans (((cell_far (p := ⟨gb103, _, none⟩) NB101_103.out _).trans (((cell_far (p := ⟨gb103, _, none⟩) NB101_103.out _).trans (((cell_far (p := ⟨gb103, _, none⟩) NB101_103.out _).trans (((cell_far (p := ⟨gb103, _, none⟩) NB101_103.out _).trans (hHeld.2.1)))))))))))))), ((cell_far (p := ⟨gb103, _, none⟩) NB101_103.out _).trans (((cell_far (p := ⟨gb103, _, none⟩) NB101_103.out _).trans (((cell_far (p := ⟨gb103, _, none⟩) NB101_103.out _).trans (((cell_far (p := ⟨gb103, _, none⟩) NB101_103.out _).trans (((cell_far (p := ⟨gb103, _, none⟩) NB101_103.out _).trans (((cell_far (p := ⟨gb103, _, none⟩) NB101_103.out _).trans (((cell_far (p := ⟨gb103, _, none⟩) NB101_103.out _).trans (hHeld.2.2.1)))))))))))))), ((cell_far (p := ⟨gb103, _, none⟩) NB101_103.out _).trans (((cell_far (p := ⟨gb103, _, none⟩) NB101_103.out _).trans (((cell_far (p := ⟨gb103, _, none⟩) NB101_103.out _).trans (((cell_far (p := ⟨gb103, _, none⟩) NB101_103.out _).trans (((cell_far (p := ⟨gb103, _, none⟩) NB101_103.out _).trans (((cell_far (p := ⟨gb103, _, none⟩) NB101_103.out _).trans (((cell_far (p := ⟨gb103, _, none⟩) NB101_103.out _).trans (hHeld.2.2.2.1)))))))))))))), ((cell_far (p := ⟨gb103, _, none⟩) NB101_103.out _).trans (((cell_far (p := ⟨gb103, _, none⟩) NB101_103.out _).trans (((cell_far (p := ⟨gb103, _, none⟩) NB101_103.out _).trans (((cell_far (p := ⟨gb103, _, none⟩) NB101_103.out _).trans (((cell_far (p := ⟨gb103, _, none⟩) NB101_103.out _).trans (((cell_far (p := ⟨gb103, _, none⟩) NB101_103.out _).trans (((cell_far (p := ⟨gb103, _, none⟩) NB101_103.out _).trans (hHeld.2.2.2.2.1)))))))))))))), ((cell_far (p := ⟨gb103, _, none⟩) NB101_103.out _).trans (((cell_far (p := ⟨gb103, _, none⟩) NB101_103.out _).trans (((cell_far (p := ⟨gb103, _, none⟩) NB101_103.out _).trans (((cell_far (p := ⟨gb103, _, none⟩) NB101_103.out _).trans (((cell_far (p := ⟨gb103, _, none⟩) NB101_103.out _).trans (((cell_far (p := ⟨gb103, _, none⟩) NB101_103.out _).trans (((cell_far (p := ⟨gb103, _, none⟩) NB101_103.out _).trans (hHeld.2.2.2.2.2))))))))))))))⟩ (fun hHeld => ?_)
 clear hK K
 refine done_ (done_of HT_.out (by kernel_rfl)) ?_
 have hnb19 := NB101_103.out.symm; have hnc19 := NB101_103.out; have hnb20 := NB102_103.out.symm; have hnc20 := NB102_103.out; obtain ⟨hcz21_0, hcz21_1, hcz21_2, hcz21_3, hcz21_4, hcz21_5, hcz21_6, hfz21_0, hfz21_1, hfz21_2, hfz21_3, hfz21_4, hfz21_5, hfz21_6⟩ := cZ7 BK103; have hnb22 := NB101_102.out; have hnc22 := NB101_102.out.symm; obtain ⟨hcz23_0, hcz23_1, hcz23_2, hcz23_3, hcz23_4, hcz23_5, hfz23_0, hfz23_1, hfz23_2, hfz23_3, hfz23_4, hfz23_5⟩ := cZ6 BK101
 try go_wp2
 have n0_ : Aside0 ((((((((((w11.setCell ⟨gb103, 0, none⟩ (.int .i64 ji4)).setCell ⟨gb103, 1, none⟩ (.int .i64 (wrap64 (1 + (wrap64 (Int.tmod a1_1 12)))))).setCell ⟨gb103, 2, none⟩ (.int .i64 (wrap64 (1 + (wrap64 (Int.tmod a1_2 3)))))).setCell ⟨gb103, 3, none⟩ (.int .i64 0)).setCell ⟨gb103, 4, none⟩ (.int .i64 0)).setCell ⟨gb103, 5, none⟩ (.int .i64 (wrap64 (Int.tdiv (wrap64 (a1_3)) 200)))).setCell ⟨gb103, 6, none⟩ (.int .u64 0)).setCell ⟨gb103, 4, none⟩ (.int .i64 (wrap64 ((wrap64 (Int.tdiv (wrap64 (a1_3)) 200)) + (wrap64 (Int.tmod a1_4 50)))))).setCell ⟨gb103, 3, none⟩ (.int .i64 (wrap64 ((wrap64 ((wrap64 (Int.tdiv (wrap64 (a1_3)) 200)) + (wrap64 (Int.tmod a1_4 50)))) + (wrap64 (a1_5)))))).heap[gb101]? = some (.cells #[.int .u8 a1_0, .int .u8 a1_1, .int .u8 a1_2, .int .u8 a1_3, .int .u8 a1_4, .int .u8 a1_5] 58 (0, 0))) := ⟨bF BK101⟩
 have n1_ : Aside0 ((((((((((w11.setCell ⟨gb103, 0, none⟩ (.int .i64 ji4)).setCell ⟨gb103, 1, none⟩ (.int .i64 (wrap64 (1 + (wrap64 (Int.tmod a1_1 12)))))).setCell ⟨gb103, 2, none⟩ (.int .i64 (wrap64 (1 + (wrap64 (Int.tmod a1_2 3)))))).setCell ⟨gb103, 3, none⟩ (.int .i64 0)).setCell ⟨gb103, 4, none⟩ (.int .i64 0)).setCell ⟨gb103, 5, none⟩ (.int .i64 (wrap64 (Int.tdiv (wrap64 (a1_3)) 200)))).setCell ⟨gb103, 6, none⟩ (.int .u64 0)).setCell ⟨gb103, 4, none⟩ (.int .i64 (wrap64 ((wrap64 (Int.tdiv (wrap64 (a1_3)) 200)) + (wrap64 (Int.tmod a1_4 50)))))).setCell ⟨gb103, 3, none⟩ (.int .i64 (wrap64 ((wrap64 ((wrap64 (Int.tdiv (wrap64 (a1_3)) 200)) + (wrap64 (Int.tmod a1_4 50)))) + (wrap64 (a1_5)))))).heap[gb102]? = some (.cells #[.int .i64 0, .int .i64 0, .int .i64 0, .int .i64 0, .int .i64 0, .int .i64 0, .int .u64 0] 28 (0, 0))) := ⟨bF BK102⟩
 have n2_ : Aside0 ((((((((((w11.setCell ⟨gb103, 0, none⟩ (.int .i64 ji4)).setCell ⟨gb103, 1, none⟩ (.int .i64 (wrap64 (1 + (wrap64 (Int.tmod a1_1 12)))))).setCell ⟨gb103, 2, none⟩ (.int .i64 (wrap64 (1 + (wrap64 (Int.tmod a1_2 3)))))).setCell ⟨gb103, 3, none⟩ (.int .i64 0)).setCell ⟨gb103, 4, none⟩ (.int .i64 0)).setCell ⟨gb103, 5, none⟩ (.int .i64 (wrap64 (Int.tdiv (wrap64 (a1_3)) 200)))).setCell ⟨gb103, 6, none⟩ (.int .u64 0)).setCell ⟨gb103, 4, none⟩ (.int .i64 (wrap64 ((wrap64 (Int.tdiv (wrap64 (a1_3)) 200)) + (wrap64 (Int.tmod a1_4 50)))))).setCell ⟨gb103, 3, none⟩ (.int .i64 (wrap64 ((wrap64 ((wrap64 (Int.tdiv (wrap64 (a1_3)) 200)) + (wrap64 (Int.tmod a1_4 50)))) + (wrap64 (a1_5)))))).heap[gb103]? = some (.cells #[.int .i64 ji4, .int .i64 (wrap64 (1 + (wrap64 (Int.tmod a1_1 12)))), .int .i64 (wrap64 (1 + (wrap64 (Int.tmod a1_2 3)))), .int .i64 (wrap64 ((wrap64 ((wrap64 (Int.tdiv (wrap64 (a1_3)) 200)) + (wrap64 (Int.tmod a1_4 50)))) + (wrap64 (a1_5)))), .int .i64 (wrap64 ((wrap64 (Int.tdiv (wrap64 (a1_3)) 200)) + (wrap64 (Int.tmod a1_4 50)))), .int .i64 (wrap64 (Int.tdiv (wrap64 (a1_3)) 200)), .int .u64 0] 28 (0, 0))) := ⟨by refine bM ?_; refine blk_put (cs := #[.int .i64 ji4, .int .i64 (wrap64 (1 + (wrap64 (Int.tmod a1_1 12)))), .int .i64 (wrap64 (1 + (wrap64 (Int.tmod a1_2 3)))), .int .i64 0, .int .i64 (wrap64 ((wrap64 (Int.tdiv (wrap64 (a1_3)) 200)) + (wrap64 (Int.tmod a1_4 50)))), .int .i64 (wrap64 (Int.tdiv (wrap64 (a1_3)) 200)), .int .u64 0]) ?_ 3 _ rfl; refine bM ?_; refine blk_put (cs := #[.int .i64 ji4, .int .i64 (wrap64 (1 + (wrap64 (Int.tmod a1_1 12)))), .int .i64 (wrap64 (1 + (wrap64 (Int.tmod a1_2 3)))), .int .i64 0, .int .i64 0, .int .i64 (wrap64 (Int.tdiv (wrap64 (a1_3)) 200)), .int .u64 0]) ?_ 4 _ rfl; refine bM ?_; refine blk_put (cs := #[.int .i64 ji4, .int .i64 (wrap64 (1 + (wrap64 (Int.tmod a1_1 12)))), .int .i64 (wrap64 (1 + (wrap64 (Int.tmod a1_2 3)))), .int .i64 0, .int .i64 0, .int .i64 (wrap64 (Int.tdiv (wrap64 (a1_3)) 200)), .int .u64 0]) ?_ 6 _ rfl; refine bM ?_; refine blk_put (cs := #[.int .i64 ji4, .int .i64 (wrap64 (1 + (wrap64 (Int.tmod a1_1 12)))), .int .i64 (wrap64 (1 + (wrap64 (Int.tmod a1_2 3)))), .int .i64 0, .int .i64 0, .int .i64 0, .int .u64 0]) ?_ 5 _ rfl; refine bM ?_; refine blk_put (cs := #[.int .i64 ji4, .int .i64 (wrap64 (1 + (wrap64 (Int.tmod a1_1 12)))), .int .i64 (wrap64 (1 + (wrap64 (Int.tmod a1_2 3)))), .int .i64 0, .int .i64 0, .int .i64 0, .int .u64 0]) ?_ 4 _ rfl; refine bM ?_; refine blk_put (cs := #[.int .i64 ji4, .int .i64 (wrap64 (1 + (wrap64 (Int.tmod a1_1 12)))), .int .i64 (wrap64 (1 + (wrap64 (Int.tmod a1_2 3)))), .int .i64 0, .int .i64 0, .int .i64 0, .int .u64 0]) ?_ 3 _ rfl; refine bM ?_; refine blk_put (cs := #[.int .i64 ji4, .int .i64 (wrap64 (1 + (wrap64 (Int.tmod a1_1 12)))), .int .i64 0, .int .i64 0, .int .i64 0, .int .i64 0, .int .u64 0]) ?_ 2 _ rfl; refine bM ?_; refine blk_put (cs := #[.int .i64 ji4, .int .i64 0, .int .i64 0, .int .i64 0, .int .i64 0, .int .i64 0, .int .u64 0]) ?_ 1 _ rfl; refine bM ?_; refine blk_put (cs := #[.int .i64 0, .int .i64 0, .int .i64 0, .int .i64 0, .int .i64 0, .int .i64 0, .int .u64 0]) ?_ 0 _ rfl; exact bD BK103⟩
 have n3_ : Aside0 (Below w.heap.size w (((((((((w11.setCell ⟨gb103, 0, none⟩ (.int .i64 ji4)).setCell ⟨gb103, 1, none⟩ (.int .i64 (wrap64 (1 + (wrap64 (Int.tmod a1_1 12)))))).setCell ⟨gb103, 2, none⟩ (.int .i64 (wrap64 (1 + (wrap64 (Int.tmod a1_2 3)))))).setCell ⟨gb103, 3, none⟩ (.int .i64 0)).setCell ⟨gb103, 4, none⟩ (.int .i64 0)).setCell ⟨gb103, 5, none⟩ (.int .i64 (wrap64 (Int.tdiv (wrap64 (a1_3)) 200)))).setCell ⟨gb103, 6, none⟩ (.int .u64 0)).setCell ⟨gb103, 4, none⟩ (.int .i64 (wrap64 ((wrap64 (Int.tdiv (wrap64 (a1_3)) 200)) + (wrap64 (Int.tmod a1_4 50)))))).setCell ⟨gb103, 3, none⟩ (.int .i64 (wrap64 ((wrap64 ((wrap64 (Int.tdiv (wrap64 (a1_3)) 200)) + (wrap64 (Int.tmod a1_4 50)))) + (wrap64 (a1_5))))))) := ⟨sD HB⟩
 (try clear BK101); (try clear BK102); (try clear BK103); (try clear HB)
 generalize (((((((((w11.setCell ⟨gb103, 0, none⟩ (.int .i64 ji4)).setCell ⟨gb103, 1, none⟩ (.int .i64 (wrap64 (1 + (wrap64 (Int.tmod a1_1 12)))))).setCell ⟨gb103, 2, none⟩ (.int .i64 (wrap64 (1 + (wrap64 (Int.tmod a1_2 3)))))).setCell ⟨gb103, 3, none⟩ (.int .i64 0)).setCell ⟨gb103, 4, none⟩ (.int .i64 0)).setCell ⟨gb103, 5, none⟩ (.int .i64 (wrap64 (Int.tdiv (wrap64 (a1_3)) 200)))).setCell ⟨gb103, 6, none⟩ (.int .u64 0)).setCell ⟨gb103, 4, none⟩ (.int .i64 (wrap64 ((wrap64 (Int.tdiv (wrap64 (a1_3)) 200)) + (wrap64 (Int.tmod a1_4 50)))))).setCell ⟨gb103, 3, none⟩ (.int .i64 (wrap64 ((wrap64 ((wrap64 (Int.tdiv (wrap64 (a1_3)) 200)) + (wrap64 (Int.tmod a1_4 50)))) + (wrap64 (a1_5)))))) = w24 at n0_ n1_ n2_ n3_ ⊢
 have BK101 := n0_; have BK102 := n1_; have BK103 := n2_; have HB := n3_; clear n0_ n1_ n2_ n3_; replace BK101 := aM (blk_drew BK101.out); replace BK102 := aM (blk_drew BK102.out); replace BK103 := aM (blk_drew BK103.out); replace HB := aM (below_drew1 HB.out)
 have p104 : 0 ≤ ((ji4) : Int) := of_decide_eq_true (by first | (with_reducible assumption) | assumption)
 have q104 : (ji4) < (l0.length : Int) := of_decide_eq_true (by first | (with_reducible assumption) | assumption)
 obtain ⟨ad104, e104, hx104_0⟩ := Kd.at_int HR0.out (ji4) p104 q104
 have hw104_0 := hx104_0
 cases e104
 replace hx104_0 := (HB.out.cell (World.block_lt_of_cell? w _ hx104_0)).trans hx104_0; replace p104 := eq_true p104; replace q104 := eq_true q104
 refine start_ (n := 8) (S := fun w' => w'.cell? ⟨gb103, 0, none⟩ = some (.int .i64 ji4) ∧ w'.cell? ⟨gb103, 1, none⟩ = some (.int .i64 (wrap64 (1 + (wrap64 (Int.tmod a1_1 12))))) ∧ w'.cell? ⟨gb103, 2, none⟩ = some (.int .i64 (wrap64 (1 + (wrap64 (Int.tmod a1_2 3))))) ∧ w'.cell? ⟨gb103, 3, none⟩ = some (.int .i64 (wrap64 ((wrap64 ((wrap64 (Int.tdiv (wrap64 (a1_3)) 200)) + (wrap64 (Int.tmod a1_4 50)))) + (wrap64 (a1_5))))) ∧ w'.cell? ⟨gb103, 4, none⟩ = some (.int .i64 (wrap64 ((wrap64 (Int.tdiv (wrap64 (a1_3)) 200)) + (wrap64 (Int.tmod a1_4 50))))) ∧ w'.cell? ⟨gb103, 5, none⟩ = some (.int .i64 (wrap64 (Int.tdiv (wrap64 (a1_3)) 200))) ∧ w'.cell? ⟨gb103, 6, none⟩ = some (.int .u64 0) ∧ w'.cell? (ad104.add ((ji4)).toNat) = some (.int .u64 (rd l0 (ji4)))) (ds := []) #[false, false, false, false, false, false, false, false] (by kernel_rfl) rfl rfl ⟨cE BK103 0, cE BK103 1, cE BK103 2, cE BK103 3, cE BK103 4, cE BK103 5, cE BK103 6, ((HB.out.cell (World.block_lt_of_cell? w _ hw104_0)).trans hw104_0)⟩ (fun hHeld => ?_); refine with_tabW paroleref32_Made.tab4 paroleref32_Made.bits4 (fun HT_ HW_ => ?_)
 generalize w24.drew = w25 at BK101 BK102 BK103 HB hx104_0 hHeld ⊢
 refine pX (i := 0) (N := some 48) rfl rfl HT_ ?_
 refine pX (i := 1) (N := some 49) rfl rfl HT_ ?_
 refine tX (i := 2) (N := some 50) rfl rfl HT_ HW_ hHeld (Or.inl ⟨by rfl, by rintro w' ⟨s0, s1, s2, s3, s4, s5, s6, s7⟩; go_simp; with_reducible rfl⟩) ?_
 refine pX (i := 3) (N := some 51) rfl rfl HT_ ?_
 refine tX (i := 4) (N := some 52) rfl rfl HT_ HW_ hHeld (Or.inl ⟨by rfl, by rintro w' ⟨s0, s1, s2, s3, s4, s5, s6, s7⟩; go_simp; with_reducible rfl⟩) ?_
 refine tX (i := 5) (N := some 53) rfl rfl HT_ HW_ hHeld (Or.inl ⟨by rfl, by rintro w' ⟨s0, s1, s2, s3, s4, s5, s6, s7⟩; go_simp; with_reducible rfl⟩) ?_
 refine oX (i := 6) (N := some 54) rfl rfl HT_ (fun K hK => ?_)
 refine gS Try.func16 #[.int .u64 (rd l0 (ji4)), .agg #[.int .i64 ji4, .int .i64 (wrap64 (1 + (wrap64 (Int.tmod a1_1 12)))), .int .i64 (wrap64 (1 + (wrap64 (Int.tmod a1_2 3)))), .int .i64 (wrap64 ((wrap64 ((wrap64 (Int.tdiv (wrap64 (a1_3)) 200)) + (wrap64 (Int.tmod a1_4 50)))) + (wrap64 (a1_5)))), .int .i64 (wrap64 ((wrap64 (Int.tdiv (wrap64 (a1_3)) 200)) + (wrap64 (Int.tmod a1_4 50)))), .int .i64 (wrap64 (Int.tdiv (wrap64 (a1_3)) 200)), .int .u64 0]] ?_ (hargs := by (try simp only [List.map_toArray, List.map_cons, List.map_nil]); first | done | (simp only [hji4]; rfl) | rfl)
 with_reducible refine (paroleref32_Sign.calls k (rd l0 (ji4)) ji4 (wrap64 (1 + (wrap64 (Int.tmod a1_1 12)))) (wrap64 (1 + (wrap64 (Int.tmod a1_2 3)))) (wrap64 ((wrap64 ((wrap64 (Int.tdiv (wrap64 (a1_3)) 200)) + (wrap64 (Int.tmod a1_4 50)))) + (wrap64 (a1_5)))) (wrap64 ((wrap64 (Int.tdiv (wrap64 (a1_3)) 200)) + (wrap64 (Int.tmod a1_4 50)))) (wrap64 (Int.tdiv (wrap64 (a1_3)) 200)) 0 t105 t106 t107 t108 t109 t110 t111 _ A7.out).mono ?_
 rintro e w26 ⟨rfl, hb⟩
 refine ⟨_, rfl, ?_⟩
 replace BK101 := bB BK101 hb; replace BK102 := bB BK102 hb; replace BK103 := bB BK103 hb; replace HB := sB HB hb; (try clear hb); (try clear hb2); (try clear hk); (try clear hi)
 refine hK.out _ _ ⟨cE BK103 0, cE BK103 1, cE BK103 2, cE BK103 3, cE BK103 4, cE BK103 5, cE BK103 6, ((HB.out.cell (World.block_lt_of_cell? w _ hw104_0)).trans hw104_0)⟩ (fun hHeld => ?_)
 clear hK K
 refine nX (some 54) ?_
 refine oX (i := 7) (N := none) rfl rfl HT_ (fun K hK => ?_)
 have hs27 : w26.cell? ⟨gb102, 0, none⟩ = some (.int .i64 0) := (blk_cell BK102.out 0).trans rfl
 have hfs27 := blk_frozen BK102.out 0; have hns27_0 := NB101_102.out; have hns27_2 := NB102_103.out.symm; have hms27_0 := NB101_102.out.symm; have hms27_2 := NB102_103.out
 have hs28 : w26.cell? ⟨gb102, 1, none⟩ = some (.int .i64 0) := (blk_cell BK102.out 1).trans rfl
 have hfs28 := blk_frozen BK102.out 1; have hns28_0 := NB101_102.out; have hns28_2 := NB102_103.out.symm; have hms28_0 := NB101_102.out.symm; have hms28_2 := NB102_103.out
 have hs29 : w26.cell? ⟨gb102, 2, none⟩ = some (.int .i64 0) := (blk_cell BK102.out 2).trans rfl
 have hfs29 := blk_frozen BK102.out 2; have hns29_0 := NB101_102.out; have hns29_2 := NB102_103.out.symm; have hms29_0 := NB101_102.out.symm; have hms29_2 := NB102_103.out
 have hs30 : w26.cell? ⟨gb102, 3, none⟩ = some (.int .i64 0) := (blk_cell BK102.out 3).trans rfl
 have hfs30 := blk_frozen BK102.out 3; have hns30_0 := NB101_102.out; have hns30_2 := NB102_103.out.symm; have hms30_0 := NB101_102.out.symm; have hms30_2 := NB102_103.out
 have hs31 : w26.cell? ⟨gb102, 4, none⟩ = some (.int .i64 0) := (blk_cell BK102.out 4).trans rfl
 have hfs31 := blk_frozen BK102.out 4; have hns31_0 := NB101_102.out; have hns31_2 := NB102_103.out.symm; have hms31_0 := NB101_102.out.symm; have hms31_2 := NB102_103.out
 have hs32 : w26.cell? ⟨gb102, 5, none⟩ = some (.int .i64 0) := (blk_cell BK102.out 5).trans rfl
 have hfs32 := blk_frozen BK102.out 5; have hns32_0 := NB101_102.out; have hns32_2 := NB102_103.out.symm; have hms32_0 := NB101_102.out.symm; have hms32_2 := NB102_103.out
 have hs33 : w26.cell? ⟨gb102, 6, none⟩ = some (.int .u64 0) := (blk_cell BK102.out 6).trans rfl
 have hfs33 := blk_frozen BK102.out 6; have hns33_0 := NB101_102.out; have hns33_2 := NB102_103.out.symm; have hms33_0 := NB101_102.out.symm; have hms33_2 := NB102_103.out
 refine skip_ (w1 := ?_) (by rfl) rfl ?_ ?_
 rotate_left
 ·go_simp
  rfl
 refine hK.out _ _ ⟨((cell_far (p := ⟨gb102, _, none⟩) NB102_103.out.symm _).trans (((cell_far (p := ⟨gb102, _, none⟩) NB102_103.out.symm _).trans (((cell_far (p := ⟨gb102, _, none⟩) NB102_103.out.symm _).trans (((cell_far (p := ⟨gb102, _, none⟩) NB102_103.out.symm _).trans (((cell_far (p := ⟨gb102, _, none⟩) NB102_103.out.symm _).trans (((cell_far (p := ⟨gb102, _, none⟩) NB102_103.out.symm _).trans (((cell_far (p := ⟨gb102, _, none⟩) NB102_103.out.symm _).trans (hHeld.1)))))))))))))), ((cell_far (p := ⟨gb102, _, none⟩) NB102_103.out.symm _).trans (((cell_far (p := ⟨gb102, _, none⟩) NB102_103.out.symm _).trans (((cell_far (p := ⟨gb102, _, none⟩) NB102_103.out.symm _).trans (((cell_far (p := ⟨gb102, _, none⟩) NB102_103.out.symm _).trans (((cell_far (p := ⟨gb102, _, none⟩) NB102_103.out.symm _).trans (((cell_far (p := ⟨gb102, _, none⟩) NB102_103.out.symm _).trans (((cell_far (p := ⟨gb102, _, none⟩) NB102_103.out.symm _).trans (hHeld.2.1)))))))))))))), ((cell_far (p := ⟨gb102, _, none⟩) NB102_103.out.symm _).trans (((cell_far (p := ⟨gb102, _, none⟩) NB102_103.out.symm _).trans (((cell_far (p := ⟨gb102, _, none⟩) NB102_103.out.symm _).trans (((cell_far (p := ⟨gb102, _, none⟩) NB102_103.out.symm _).trans (((cell_far (p := ⟨gb102, _, none⟩) NB102_103.out.symm _).trans (((cell_far (p := ⟨gb102, _, none⟩) NB102_103.out.symm _).trans (((cell_far (p := ⟨gb102, _, none⟩) NB102_103.out.symm _).trans (hHeld.2.2.1)))))))))))))), ((cell_far (p := ⟨gb102, _, none⟩) NB102_103.out.symm _).trans (((cell_far (p := ⟨gb102, _, none⟩) NB102_103.out.symm _).trans (((cell_far (p := ⟨gb102, _, none⟩) NB102_103.out.symm _).trans (((cell_far (p := ⟨gb102, _, none⟩) NB102_103.out.symm _).trans (((cell_far (p := ⟨gb102, _, none⟩) NB102_103.out.symm _).trans (((cell_far (p := ⟨gb102, _, none⟩) NB102_103.out.symm _).trans (((cell_far (p := ⟨gb102, _, none⟩) NB102_103.out.symm _).trans (hHeld.2.2.2.1)))))))))))))), ((cell_far (p := ⟨gb102, _, none⟩) NB102_103.out.symm _).trans (((cell_far (p := ⟨gb102, _, none⟩) NB102_103.out.symm _).trans (((cell_far (p := ⟨gb102, _, none⟩) NB102_103.out.symm _).trans (((cell_far (p := ⟨gb102, _, none⟩) NB102_103.out.symm _).trans (((cell_far (p := ⟨gb102, _, none⟩) NB102_103.out.symm _).trans (((cell_far (p := ⟨gb102, _, none⟩) NB102_103.out.symm _).trans (((cell_far (p := ⟨gb102, _, none⟩) NB102_103.out.symm _).trans (hHeld.2.2.2.2.1)))))))))))))), ((cell_far (p := ⟨gb102, _, none⟩) NB102_103.out.symm _).trans (((cell_far (p := ⟨gb102, _, none⟩) NB102_103.out.symm _).trans (((cell_far (p := ⟨gb102, _, none⟩) NB102_103.out.symm _).trans (((cell_far (p := ⟨gb102, _, none⟩) NB102_103.out.symm _).trans (((cell_far (p := ⟨gb102, _, none⟩) NB102_103.out.symm _).trans (((cell_far (p := ⟨gb102, _, none⟩) NB102_103.out.symm _).trans (((cell_far (p := ⟨gb102, _, none⟩) NB102_103.out.symm _).trans (hHeld.2.2.2.2.2.1)))))))))))))), ((cell_far (p := ⟨gb102, _, none⟩) NB102_103.out.symm _).trans (((cell_far (p := ⟨gb102, _, none⟩) NB102_103.out.symm _).trans (((cell_far (p := ⟨gb102, _, none⟩) NB102_103.out.symm _).trans (((cell_far (p := ⟨gb102, _, none⟩) NB102_103.out.symm _).trans (((cell_far (p := ⟨gb102, _, none⟩) NB102_103.out.symm _).trans (((cell_far (p := ⟨gb102, _, none⟩) NB102_103.out.symm _).trans (((cell_far (p := ⟨gb102, _, none⟩) NB102_103.out.symm _).trans (hHeld.2.2.2.2.2.2.1)))))))))))))), ((cell_far (p := ⟨gb102, _, none⟩) (by first | exact Nat.ne_of_lt (Nat.lt_of_lt_of_le (by have := World.block_lt_of_cell? _ _ hw104_0; first | rwa [add_block] at this | exact this) GW102.out) | (rw [add_block]; exact Nat.ne_of_lt (Nat.lt_of_lt_of_le (by have := World.block_lt_of_cell? _ _ hw104_0; first | rwa [add_block] at this | exact this) GW102.out)) | (show (Addr.add _ _).block ≠ _; rw [add_block]; exact Nat.ne_of_lt (Nat.lt_of_lt_of_le (by have := World.block_lt_of_cell? _ _ hw104_0; first | rwa [add_block] at this | exact this) GW102.out)) | (dsimp only; exact Nat.ne_of_lt (Nat.lt_of_lt_of_le (by have := World.block_lt_of_cell? _ _ hw104_0; first | rwa [add_block] at this | exact this) GW102.out))) _).trans (((cell_far (p := ⟨gb102, _, none⟩) (by first | exact Nat.ne_of_lt (Nat.lt_of_lt_of_le (by have := World.block_lt_of_cell? _ _ hw104_0; first | rwa [add_block] at this | exact this) GW102.out) | (rw [add_block]; exact Nat.ne_of_lt (Nat.lt_of_lt_of_le (by have := World.block_lt_of_cell? _ _ hw104_0; first | rwa [add_block] at this | exact this) GW102.out)) | (show (Addr.add _ _).block ≠ _; rw [add_block]; exact Nat.ne_of_lt (Nat.lt_of_lt_of_le (by have := World.block_lt_of_cell? _ _ hw104_0; first | rwa [add_block] at this | exact this) GW102.out)) | (dsimp only; exact Nat.ne_of_lt (Nat.lt_of_lt_of_le (by have := World.block_lt_of_cell? _ _ hw104_0; first | rwa [add_block] at this | exact this) GW102.out))) _).trans (((cell_far (p := ⟨gb102, _, none⟩) (by first | exact Nat.ne_of_lt (Nat.lt_of_lt_of_le (by have := World.block_lt_of_cell? _ _ hw104_0; first | rwa [add_block] at this | exact this) GW102.out) | (rw [add_block]; exact Nat.ne_of_lt (Nat.lt_of_lt_of_le (by have := World.block_lt_of_cell? _ _ hw104_0; first | rwa [add_block] at this | exact this) GW102.out)) | (show (Addr.add _ _).block ≠ _; rw [add_block]; exact Nat.ne_of_lt (Nat.lt_of_lt_of_le (by have := World.block_lt_of_cell? _ _ hw104_0; first | rwa [add_block] at this | exact this) GW102.out)) | (dsimp only; exact Nat.ne_of_lt (Nat.lt_of_lt_of_le (by have := World.block_lt_of_cell? _ _ hw104_0; first | rwa [add_block] at this | exact this) GW102.out))) _).trans (((cell_far (p := ⟨gb102, _, none⟩) (by first | exact Nat.ne_of_lt (Nat.lt_of_lt_of_le (by have := World.block_lt_of_cell? _ _ hw104_0; first | rwa [add_block] at this | exact this) GW102.out) | (rw [add_block]; exact Nat.ne_of_lt (Nat.lt_of_lt_of_le (by have := World.block_lt_of_cell? _ _ hw104_0; first | rwa [add_block] at this | exact this) GW102.out)) | (show (Addr.add _ _).block ≠ _; rw [add_block]; exact Nat.ne_of_lt (Nat.lt_of_lt_of_le (by have := World.block_lt_of_cell? _ _ hw104_0; first | rwa [add_block] at this | exact this) GW102.out)) | (dsimp only; exact Nat.ne_of_lt (Nat.lt_of_lt_of_le (by have := World.block_lt_of_cell? _ _ hw104_0; first | rwa [add_block] at this | exact this) GW102.out))) _).trans (((cell_far (p := ⟨gb102, _, none⟩) (by first | exact Nat.ne_of_lt (Nat.lt_of_lt_of_le (by have := World.block_lt_of_cell? _ _ hw104_0; first | rwa [add_block] at this | exact this) GW102.out) | (rw [add_block]; exact Nat.ne_of_lt (Nat.lt_of_lt_of_le (by have := World.block_lt_of_cell? _ _ hw104_0; first | rwa [add_block] at this | exact this) GW102.out)) | (show (Addr.add _ _).block ≠ _; rw [add_block]; exact Nat.ne_of_lt (Nat.lt_of_lt_of_le (by have := World.block_lt_of_cell? _ _ hw104_0; first | rwa [add_block] at this | exact this) GW102.out)) | (dsimp only; exact Nat.ne_of_lt (Nat.lt_of_lt_of_le (by have := World.block_lt_of_cell? _ _ hw104_0; first | rwa [add_block] at this | exact this) GW102.out))) _).trans (((cell_far (p := ⟨gb102, _, none⟩) (by first | exact Nat.ne_of_lt (Nat.lt_of_lt_of_le (by have := World.block_lt_of_cell? _ _ hw104_0; first | rwa [add_block] at this | exact this) GW102.out) | (rw [add_block]; exact Nat.ne_of_lt (Nat.lt_of_lt_of_le (by have := World.block_lt_of_cell? _ _ hw104_0; first | rwa [add_block] at this | exact this) GW102.out)) | (show (Addr.add _ _).block ≠ _; rw [add_block]; exact Nat.ne_of_lt (Nat.lt_of_lt_of_le (by have := World.block_lt_of_cell? _ _ hw104_0; first | rwa [add_block] at this | exact this) GW102.out)) | (dsimp only; exact Nat.ne_of_lt (Nat.lt_of_lt_of_le (by have := World.block_lt_of_cell? _ _ hw104_0; first | rwa [add_block] at this | exact this) GW102.out))) _).trans (((cell_far (p := ⟨gb102, _, none⟩) (by first | exact Nat.ne_of_lt (Nat.lt_of_lt_of_le (by have := World.block_lt_of_cell? _ _ hw104_0; first | rwa [add_block] at this | exact this) GW102.out) | (rw [add_block]; exact Nat.ne_of_lt (Nat.lt_of_lt_of_le (by have := World.block_lt_of_cell? _ _ hw104_0; first | rwa [add_block] at this | exact this) GW102.out)) | (show (Addr.add _ _).block ≠ _; rw [add_block]; exact Nat.ne_of_lt (Nat.lt_of_lt_of_le (by have := World.block_lt_of_cell? _ _ hw104_0; first | rwa [add_block] at this | exact this) GW102.out)) | (dsimp only; exact Nat.ne_of_lt (Nat.lt_of_lt_of_le (by have := World.block_lt_of_cell? _ _ hw104_0; first | rwa [add_block] at this | exact this) GW102.out))) _).trans (hHeld.2.2.2.2.2.2.2))))))))))))))⟩ (fun hHeld => ?_)
 clear hK K
 refine done_ (done_of HT_.out (by kernel_rfl)) ?_
 try go_wp2
 refine bodyPost_ret (results_cell_row rfl _ _ gb102 28 #[.int .i64 t105, .int .i64 t106, .int .i64 t107, .int .i64 t108, .int .i64 t109, .int .i64 t110, .int .u64 t111] (0, 0) _ rfl (by refine bM ?_; refine blk_put (cs := #[.int .i64 t105, .int .i64 t106, .int .i64 t107, .int .i64 t108, .int .i64 t109, .int .i64 t110, .int .u64 0]) ?_ 6 _ rfl; refine bM ?_; refine blk_put (cs := #[.int .i64 t105, .int .i64 t106, .int .i64 t107, .int .i64 t108, .int .i64 t109, .int .i64 0, .int .u64 0]) ?_ 5 _ rfl; refine bM ?_; refine blk_put (cs := #[.int .i64 t105, .int .i64 t106, .int .i64 t107, .int .i64 t108, .int .i64 0, .int .i64 0, .int .u64 0]) ?_ 4 _ rfl; refine bM ?_; refine blk_put (cs := #[.int .i64 t105, .int .i64 t106, .int .i64 t107, .int .i64 0, .int .i64 0, .int .i64 0, .int .u64 0]) ?_ 3 _ rfl; refine bM ?_; refine blk_put (cs := #[.int .i64 t105, .int .i64 t106, .int .i64 0, .int .i64 0, .int .i64 0, .int .i64 0, .int .u64 0]) ?_ 2 _ rfl; refine bM ?_; refine blk_put (cs := #[.int .i64 t105, .int .i64 0, .int .i64 0, .int .i64 0, .int .i64 0, .int .i64 0, .int .u64 0]) ?_ 1 _ rfl; refine bM ?_; refine blk_put (cs := #[.int .i64 0, .int .i64 0, .int .i64 0, .int .i64 0, .int .i64 0, .int .i64 0, .int .u64 0]) ?_ 0 _ rfl; exact bD BK102) Try.underlying28 rfl (by kernel_rfl)) rfl ?_
 exact ⟨by first | rfl | (simp [errW_none, errW_some] <;> rfl) | (simp only [← hji4]; first | rfl | (simp [errW_none, errW_some] <;> rfl)) | (simp [*, errW_none, errW_some] <;> rfl), sD HB⟩
end Go.Proofs.Ytfdoncgljohndaa.P
namespace Go.Proofs.Ytfdoncgljohndaa.P
open Go.Proofs.YtfdoncgljohndaaH Go.RowKit Go.Proofs.YtfdoncgljohndaaW.PrintWords Go.Proofs.YtfdoncgljohndaaW.PrintLast Go.Proofs.YtfdoncgljohndaaW.PrintMore
attribute [local go_sem] max2_int min2_int max_two min_two max_three min_three max_four min_four   -- for this text's walks alone
def paroleref32_List.l0 : Nat → List Int → List (S58) → Int → List (S28) → Int → Option ((List (S28)))
 | 0, _, _, _, _, _ => none
 | k + 1, x0, x1, x2, x7, x8 => if x8 < (x1.length : Int) then (if x8 < x2 then (if 0 ≤ x8 then ((paroleref32_Made.f k x0 ((rd_T58 x1 x8).f0.f0) ((rd_T58 x1 x8).f0.f1) ((rd_T58 x1 x8).f0.f2) ((rd_T58 x1 x8).f0.f3) ((rd_T58 x1 x8).f0.f4) ((rd_T58 x1 x8).f0.f5)).bind fun bt105 => (if x7.length < 2513169434916 then (paroleref32_List.l0 k x0 x1 x2 (x7 ++ [(⟨bt105.1, bt105.2.1, bt105.2.2.1, bt105.2.2.2.1, bt105.2.2.2.2.1, bt105.2.2.2.2.2.1, bt105.2.2.2.2.2.2⟩ : S28)]) (wrap64 (x8 + 1))) else (none))) else (none)) else (some x7)) else (some x7)
def paroleref32_List.f (k : Nat) (l0 : List Int) (l1 : List (S58)) (a2 : Int) : Option ((List (S28))) := paroleref32_List.l0 k l0 l1 a2 (([] : List (S28))) 0
set_option maxHeartbeats 40000000 in
set_option maxRecDepth 100000 in
theorem paroleref32_List.calls (k : Nat) (A0 : Option Addr) (c0 : Nat) (l0 : List Int) (A1 : Option Addr) (c1 : Nat) (l1 : List (S58)) (a2 : Int) (r : List (S28)) (w : World) (hr0 : Kd.C (Kd.int .u64) w A0 l0.length l0) (hc0 : l0.length ≤ c0) (hr1 : Kd.C k58 w A1 l1.length l1) (hc1 : l1.length ≤ c1) (h : paroleref32_List.f k l0 l1 a2 = some r) :
  Calls Try.prog 31 #[.slice A0 l0.length c0, .slice A1 l1.length c1, .int .i64 a2] w fun e w' => ∃ v0_ : Value, e = .returned (v0_) ∧ Kd.R k28 28 w' w.heap.size (fun _ => True) v0_ r ∧ Below w.heap.size w w' := by
 have hu58 := Try.underlying58; have HR0 := aM hr0; have HC0 := aM hc0; clear hr0 hc0; have HR1 := aM hr1; have HC1 := aM hc1; clear hr1 hc1; have HB := aM (Below.refl w.heap.size w)
 have H : (paroleref32_List.l0 k l0 l1 a2 (([] : List (S28))) 0) = some r := h
 clear h
 obtain ⟨y101, hy101⟩ : ∃ y_ : List (S28), y_ = (([] : List (S28))) := ⟨_, rfl⟩
 replace H : (paroleref32_List.l0 k l0 l1 a2 y101 0) = some r := by first | (rw [hy101]; with_reducible exact H) | (have H2_ := (Option.bind_some _ _).symm.trans H; rw [hy101]; with_reducible exact H2_) | (have H2_ := (Option.bind_some _ _).symm.trans H; with_reducible exact H2_) | with_reducible exact H | (rw [hy101]; exact H) | exact H
 have Ny101 := aM hy101; clear hy101; have H' := aM H; clear H
 go_enter Try.func31, Try.ntmps31
 go_wp2_with (first | ((with_reducible refine gate_dst (N := 9) rfl ?_); refine Kd.R_lit k28 _ 28 ?hg (N := 9) ?hd (xs := ([] : List (S28))) (inner := []) (ok := fun _ => True) (okp := fun _ => True) ?hr ?hp (fun _ hk => hk) trivial (Below.refl _ _) (Nat.le_refl _) (by simp) ?_; (case hd => rfl); (case hg => rfl); (case hr => first | (go_simp; done) | (go_simp; rfl)); (case hp => exact (Reps.none _ _)); intro v102 w4 ho5 hb hg_ hnew_; clear hg_ hnew_; (first | rw [← Ny101.out] at ho5 | (simp only [Int.reduceToNat] at ho5; rw [← Ny101.out] at ho5)); have HO103 := rL (n := 0) ho5 HB; replace HB := sB HB hb; clear hb ho5))
 go_loopg [7, 8] k (fun kq v7 v8 w' => ∃ (x7_1 : List (S28)) (x8_1 : Int), v8 = .int .i64 x8_1 ∧ Aside0 (paroleref32_List.l0 kq l0 l1 a2 x7_1 x8_1 = some r) ∧ Aside0 (kq ≤ k) ∧ Aside0 (Kd.R k28 28 w' w.heap.size (fun _ => True) v7 x7_1) ∧ Aside0 (Below w.heap.size w w'))
 case atStart => exact ⟨(y101), (0), (by first | rfl | (simp; done) | (simp [*]; done)), H', ⟨Nat.le_refl _⟩, ⟨by (with_reducible repeat (first | apply Kd.R_alloc | apply Kd.R_drewN | apply Kd.R_drew)); exact HO103.out⟩, ⟨sD HB⟩⟩
 case round =>
  clear H'
  try clear c1
  try clear p2
  try clear c3
  obtain ⟨x7_1, x8_1, rfl, HA, HK1, HO_7, HB⟩ := hrel
  cases gk with
  | zero => exact absurd HA.out (by simp [paroleref32_List.l0])
  | succ k1 =>
   have H := HA.out; clear HA
   simp only [paroleref32_List.l0] at H
   by_cases c6 : x8_1 < (l1.length : Int)
   ·rw [if_pos c6] at H
    have c6b0 : decide (x8_1 < (l1.length : Int)) = true := decide_eq_true c6
    clear c6
    by_cases c7 : x8_1 < a2
    ·rw [if_pos c7] at H
     have c7b0 : decide (x8_1 < a2) = true := decide_eq_true c7
     clear c7
     by_cases c8 : 0 ≤ x8_1
     ·rw [if_pos c8] at H
      have c8b0 : decide (0 ≤ x8_1) = true := decide_eq_true c8
      clear c8; replace H := Option.bind_eq_some_iff.mp H
      obtain ⟨⟨t105, t106, t107, t108, t109, t110, t111⟩, A90, H⟩ := H
      replace H : (if x7_1.length < 2513169434916 then (paroleref32_List.l0 k1 l0 l1 a2 (x7_1 ++ [(⟨t105, t106, t107, t108, t109, t110, t111⟩ : S28)]) (wrap64 (x8_1 + 1))) else (none)) = some r := H
      have A9 := aM A90; clear A90
      by_cases c10 : x7_1.length < 2513169434916
      ·rw [if_pos c10] at H
       have LMc10 := aM c10; clear c10
       obtain ⟨y112, hy112⟩ : ∃ y_ : List (S28), y_ = (x7_1 ++ [(⟨t105, t106, t107, t108, t109, t110, t111⟩ : S28)]) := ⟨_, rfl⟩
       replace H : (paroleref32_List.l0 k1 l0 l1 a2 y112 (wrap64 (x8_1 + 1))) = some r := by first | (rw [hy112]; with_reducible exact H) | (have H2_ := (Option.bind_some _ _).symm.trans H; rw [hy112]; with_reducible exact H2_) | (have H2_ := (Option.bind_some _ _).symm.trans H; with_reducible exact H2_) | with_reducible exact H | (rw [hy112]; exact H) | exact H
       have Ny112 := aM hy112; clear hy112; have H' := aM H; clear H
       have p104 : 0 ≤ (x8_1 : Int) := of_decide_eq_true (by first | (with_reducible assumption) | assumption)
       have q104 : x8_1 < (l1.length : Int) := of_decide_eq_true (by first | (with_reducible assumption) | assumption)
       obtain ⟨ad104, e104, hx104_0, hx104_1, hx104_2, hx104_3, hx104_4, hx104_5⟩ := at_T58 HR1.out x8_1 p104 q104
       cases e104
       replace hx104_0 := (HB.out.cell (World.block_lt_of_cell? w _ hx104_0)).trans hx104_0; replace hx104_1 := (HB.out.cell (World.block_lt_of_cell? w _ hx104_1)).trans hx104_1; replace hx104_2 := (HB.out.cell (World.block_lt_of_cell? w _ hx104_2)).trans hx104_2; replace hx104_3 := (HB.out.cell (World.block_lt_of_cell? w _ hx104_3)).trans hx104_3; replace hx104_4 := (HB.out.cell (World.block_lt_of_cell? w _ hx104_4)).trans hx104_4; replace hx104_5 := (HB.out.cell (World.block_lt_of_cell? w _ hx104_5)).trans hx104_5; replace p104 := eq_true p104; replace q104 := eq_true q104
       go_wp2_with (first | ((with_reducible refine gate_callee (f := 23) rfl ?_); refine gL (some 27) Try.func23 #[.slice A0 l0.length c0, .agg #[.int .u8 ((rd_T58 l1 x8_1).f0.f0), .int .u8 ((rd_T58 l1 x8_1).f0.f1), .int .u8 ((rd_T58 l1 x8_1).f0.f2), .int .u8 ((rd_T58 l1 x8_1).f0.f3), .int .u8 ((rd_T58 l1 x8_1).f0.f4), .int .u8 ((rd_T58 l1 x8_1).f0.f5)]] ?_; (with_reducible refine (paroleref32_Made.calls k1 _ _ l0 ((rd_T58 l1 x8_1).f0.f0) ((rd_T58 l1 x8_1).f0.f1) ((rd_T58 l1 x8_1).f0.f2) ((rd_T58 l1 x8_1).f0.f3) ((rd_T58 l1 x8_1).f0.f4) ((rd_T58 l1 x8_1).f0.f5) t105 t106 t107 t108 t109 t110 t111 _ ?side1 ?side2 A9.out).mono ?_); (case side1 => exact cC HR0 HB); (case side2 => exact HC0.out); rintro e w11 ⟨rfl, hb⟩; refine ⟨_, rfl, ?_⟩; replace HO_7 := rB HO_7 hb; replace HB := sB HB hb; (try clear hb)) | ((with_reducible refine gate_builtin (b := .append) (xs := #[.tmp 21, .tmp 28]) rfl ?_); at_builtin; refine Kd.R_append k28 (w0 := w) w.heap.size rfl (.tmp 21) (.tmp 28) 31 28 (.agg #[(.int .i64 0), (.int .i64 0), (.int .i64 0), (.int .i64 0), (.int .i64 0), (.int .i64 0), (.int .u64 0)]) 56 rfl Try.underlying31 info28 rfl (by decide) (by omega) u7 x7_1 (⟨t105, t106, t107, t108, t109, t110, t111⟩ : S28) [.int .i64 t105, .int .i64 t106, .int .i64 t107, .int .i64 t108, .int .i64 t109, .int .i64 t110, .int .u64 t111] (fun _ => True) (fun _ => False) rfl rfl ?aP (fun _ hk => hk.elim) ?aF ?aO ?aB ?aS ?aL ?_; (case aP => exact k28_mkM _ _ _ (⟨t105, t106, t107, t108, t109, t110, t111⟩ : S28)); (case aB => exact (sD HB)); (case aF => exact (fun _ _ => trivial)); (case aO => exact (rD HO_7)); (case aS => exact (below_size (sD HB))); (case aL => have := LMc10.out; omega); intro v113 w12 ho hb hg hat; rw [← Ny112.out] at ho; have HO114 := aM (ho); replace HB := aM (hb); clear HO_7; clear ho hb hg hat))
       go_roundg k1
       case measure => have := HK1.out; omega
       case rel => exact ⟨(y112), (wrap64 (x8_1 + 1)), (by first | rfl | (simp; done) | (simp [*]; done)), H', ⟨by have := HK1.out; omega⟩, ⟨by (with_reducible repeat (first | apply Kd.R_alloc | apply Kd.R_drewN | apply Kd.R_drew)); exact HO114.out⟩, ⟨sD HB⟩⟩
      ·rw [if_neg c10] at H
       exact absurd H (by simp)
     ·rw [if_neg c8] at H
      exact absurd H (by simp)
    ·rw [if_neg c7] at H
     have c7b0 : decide (x8_1 < a2) = false := decide_eq_false c7
     clear c7
     obtain rfl := Option.some.inj H
     go_wp2
     go_ret
     exact ⟨_, by first | rfl | (simp [errW_none, errW_some] <;> rfl) | (simp [*, errW_none, errW_some] <;> rfl), by (with_reducible repeat (first | apply Kd.R_alloc | apply Kd.R_drewN | apply Kd.R_drew)); exact HO_7.out, sD HB⟩
   ·rw [if_neg c6] at H
    have c6b0 : decide (x8_1 < (l1.length : Int)) = false := decide_eq_false c6
    clear c6
    obtain rfl := Option.some.inj H
    go_wp2
    go_ret
    exact ⟨_, by first | rfl | (simp [errW_none, errW_some] <;> rfl) | (simp [*, errW_none, errW_some] <;> rfl), by (with_reducible repeat (first | apply Kd.R_alloc | apply Kd.R_drewN | apply Kd.R_drew)); exact HO_7.out, sD HB⟩
end Go.Proofs.Ytfdoncgljohndaa.P
namespace Go.Proofs.Ytfdoncgljohndaa.P
open Go.Proofs.YtfdoncgljohndaaH Go.RowKit Go.Proofs.YtfdoncgljohndaaW.PrintWords Go.Proofs.YtfdoncgljohndaaW.PrintLast Go.Proofs.YtfdoncgljohndaaW.PrintMore
attribute [local go_sem] max2_int min2_int max_two min_two max_three min_three max_four min_four   -- for this text's walks alone
def parolelaw32_made.f (k : Nat) (a0_0 : Int) (l0_1 : List (S58)) (a0_2 : Int) : Option (List Int × (List (S28)) × Int) := (paroleref32_Keys.f k (wrap64 (1 + (wrap64 (Int.tmod a0_0 4))))).bind fun t102 => ((paroleref32_List.f k t102 l0_1 20).bind fun t105 => (some (t102, t105, wrap64 (1 + (wrap64 (Int.tmod a0_2 3))))))
def parolelaw32_made.T2 : Bool × List (List Nat × List Nat) := (true, [([], []), ([], []), ([], []), ([2], [2]), ([1, 3], [1, 3]), ([], []), ([5], [5]), ([6], [6]), ([7], [7]), ([8], [8]), ([0, 4, 0], [0]), ([4, 10, 0, 1, 2, 3, 4, 10], [4]), ([9, 11, 0, 1, 2, 3, 4, 5, 6, 7, 8, 9, 10, 11], [9])])
def parolelaw32_made.B2 : List Nat := [0, 0, 0, 4, 14, 0, 32, 96, 224, 480, 31, 1055, 4095]
theorem parolelaw32_made.tab2 : rtab .any (opsOf Try.f11 2) = parolelaw32_made.T2 := by kernel_rfl
theorem parolelaw32_made.bits2 : waitsOk parolelaw32_made.T2.2 parolelaw32_made.B2 = true := by kernel_rfl
set_option maxHeartbeats 40000000 in
set_option maxRecDepth 100000 in
theorem parolelaw32_made.calls (k : Nat) (a0_0 : Int) (A0_1 : Option Addr) (c0_1 : Nat) (l0_1 : List (S58)) (a0_2 : Int) (r1 : List Int) (r2 : List (S28)) (r3 : Int) (w : World) (hr0_1 : Kd.C k58 w A0_1 l0_1.length l0_1) (hc0_1 : l0_1.length ≤ c0_1) (h : parolelaw32_made.f k a0_0 l0_1 a0_2 = some (r1, r2, r3)) :
  Calls Try.prog 11 #[.agg #[.int .u8 a0_0, .slice A0_1 l0_1.length c0_1, .int .u8 a0_2]] w fun e w' => ∃ v0_ v1_ : Value, e = .returned (.tuple #[v0_, v1_, .int .i64 r3]) ∧ Kd.R (Kd.int .u64) 26 w' w.heap.size (fun _ => True) v0_ r1 ∧ Kd.R k28 28 w' w.heap.size (fun _ => True) v1_ r2 ∧ Below w.heap.size w w' := by
 have hu24 := Try.underlying24; have HR0_1 := aM hr0_1; have HC0_1 := aM hc0_1; clear hr0_1 hc0_1; have HB := aM (Below.refl w.heap.size w)
 have H : ((paroleref32_Keys.f k (wrap64 (1 + (wrap64 (Int.tmod a0_0 4))))).bind fun t102 => ((paroleref32_List.f k t102 l0_1 20).bind fun t105 => (some (t102, t105, wrap64 (1 + (wrap64 (Int.tmod a0_2 3))))))) = some (r1, r2, r3) := h
 clear h; replace H := Option.bind_eq_some_iff.mp H
 obtain ⟨t102, A20, H⟩ := H
 replace H : ((paroleref32_List.f k t102 l0_1 20).bind fun t105 => (some (t102, t105, wrap64 (1 + (wrap64 (Int.tmod a0_2 3)))))) = some (r1, r2, r3) := H
 have A2 := aM A20; clear A20; replace H := Option.bind_eq_some_iff.mp H
 obtain ⟨t105, A30, H⟩ := H
 replace H : (some (t102, t105, wrap64 (1 + (wrap64 (Int.tmod a0_2 3))))) = some (r1, r2, r3) := H
 have A3 := aM A30; clear A30
 simp only [Option.some.injEq, Prod.mk.injEq] at H
 obtain ⟨rfl, rfl, rfl⟩ := H
 go_enter Try.func11, Try.ntmps11
 try go_wp2_with (first | ((with_reducible refine gate_dst (N := 1) rfl ?_); refine bE (N := 1) (cs := #[.int .u8 a0_0, .slice A0_1 l0_1.length c0_1, .int .u8 a0_2]) (t := 24) ?_; intro gb101 hg w4 hbox hb; have BK101 := aM (hbox); have GW101 := gE hg HB; have GE101 := gE hg HB; replace HB := sB HB hb; clear hb hbox hg; obtain ⟨hcz5_0, hcz5_1, hcz5_2, hfz5_0, hfz5_1, hfz5_2⟩ := cZ3 BK101) | ((with_reducible refine gate_callee (f := 30) rfl ?_); refine gL (some 11) Try.func30 #[.int .i64 (wrap64 (1 + (wrap64 (Int.tmod a0_0 4))))] ?_; (with_reducible refine (paroleref32_Keys.calls k (wrap64 (1 + (wrap64 (Int.tmod a0_0 4)))) t102 _ A2.out).mono ?_); rintro e w6 ⟨v103, rfl, ho0, hb⟩; refine ⟨_, rfl, ?_⟩; have HO104 := rL (n := 0) ho0 HB; replace BK101 := bB BK101 hb; replace HB := sB HB hb; (try clear hb); (try clear ho0)))
 replace HO104 := aM (Kd.R_drew HO104.out); replace BK101 := aM (blk_drew BK101.out); replace HB := aM (below_drew1 HB.out)
 obtain ⟨Ao8, co8, eo8⟩ := Kd.R_slice HO104.out
 (first | subst eo8 | (injection eo8 with f1_ f2_ f3_; have f4_ := f1_.symm; have f5_ := f3_.symm; clear f1_ f2_ f3_; subst f4_; subst f5_))
 refine start_ (n := 13) (S := fun w' => w'.cell? ⟨gb101, 0, none⟩ = some (.int .u8 a0_0) ∧ w'.cell? ⟨gb101, 1, none⟩ = some (.slice A0_1 l0_1.length c0_1) ∧ w'.cell? ⟨gb101, 2, none⟩ = some (.int .u8 a0_2)) (ds := []) #[false, false, false, false, false, false, false, false, false, false, false, false, false] (by kernel_rfl) rfl rfl ⟨cE BK101 0, cE BK101 1, cE BK101 2⟩ (fun hHeld => ?_); refine with_tabW parolelaw32_made.tab2 parolelaw32_made.bits2 (fun HT_ HW_ => ?_)
 generalize w6.drew = w7 at HO104 BK101 HB hHeld ⊢
 refine pX (i := 0) (N := some 12) rfl rfl HT_ ?_
 refine pX (i := 1) (N := some 13) rfl rfl HT_ ?_
 refine pX (i := 2) (N := some 14) rfl rfl HT_ ?_
 refine pX (i := 5) (N := some 17) rfl rfl HT_ ?_
 refine tX (i := 3) (N := some 15) rfl rfl HT_ HW_ hHeld (Or.inl ⟨by rfl, by rintro w' ⟨s0, s1, s2⟩; go_simp; with_reducible rfl⟩) ?_
 refine tX (i := 6) (N := some 18) rfl rfl HT_ HW_ hHeld (Or.inl ⟨by rfl, by rintro w' ⟨s0, s1, s2⟩; go_simp; with_reducible rfl⟩) ?_
 refine pX (i := 7) (N := some 19) rfl rfl HT_ ?_
 refine pX (i := 8) (N := some 20) rfl rfl HT_ ?_
 refine pX (i := 9) (N := some 21) rfl rfl HT_ ?_
 refine oX (i := 4) (N := some 16) rfl rfl HT_ (fun K hK => ?_)
 refine gS Try.func31 #[.slice Ao8 t102.length co8, .slice A0_1 l0_1.length c0_1, .int .i64 20] ?_
 with_reducible refine (paroleref32_List.calls k _ _ t102 _ _ l0_1 20 t105 _ ?side1 ?side2 ?side3 ?side4 A3.out).mono ?_
 (case side1 => exact rC HO104)
 (case side2 => exact rN HO104)
 (case side3 => exact cC HR0_1 HB)
 (case side4 => exact HC0_1.out)
 rintro e w9 ⟨v106, rfl, ho0, hb⟩
 refine ⟨_, rfl, ?_⟩
 have HO107 := rL (n := 0) ho0 HB; replace HO104 := rB HO104 hb; replace BK101 := bB BK101 hb; replace HB := sB HB hb; (try clear hb); (try clear hb2); (try clear hk); (try clear hi); (try clear ho0)
 refine hK.out _ _ ⟨cE BK101 0, cE BK101 1, cE BK101 2⟩ (fun hHeld => ?_)
 clear hK K
 refine nX (some 16) ?_
 refine pX (i := 10) (N := some 2) rfl rfl HT_ ?_
 refine pX (i := 11) (N := some 3) rfl rfl HT_ ?_
 refine pX (i := 12) (N := some 4) rfl rfl HT_ ?_
 refine done_ (done_of HT_.out (by kernel_rfl)) ?_
 try go_wp2
 go_ret3
 exact ⟨_, _, by first | rfl | (simp [errW_none, errW_some] <;> rfl) | (simp [*, errW_none, errW_some] <;> rfl), by (with_reducible repeat (first | apply Kd.R_alloc | apply Kd.R_drewN | apply Kd.R_drew)); exact HO104.out, by (with_reducible repeat (first | apply Kd.R_alloc | apply Kd.R_drewN | apply Kd.R_drew)); exact HO107.out, sD HB⟩
end Go.Proofs.Ytfdoncgljohndaa.P
namespace Go.Proofs.Ytfdoncgljohndaa.P
open Go.Proofs.YtfdoncgljohndaaH Go.RowKit Go.Proofs.YtfdoncgljohndaaW.PrintWords Go.Proofs.YtfdoncgljohndaaW.PrintLast Go.Proofs.YtfdoncgljohndaaW.PrintMore
attribute [local go_sem] max2_int min2_int max_two min_two max_three min_three max_four min_four   -- for this text's walks alone
attribute [local go_sem] Go.Proofs.YtfdoncgljohndaaH.cell_set_map
def parolelaw32_changed.f (a0_0 : Int) (a0_1 : Int) (a0_2 : Int) (a0_3 : Int) (a0_4 : Int) (a0_5 : Int) (a0_6 : Int) (a1 : Int) (a2 : Int) : Option (Int × Int × Int × Int × Int × Int × Int) := if (Int.tmod a1 7) = 0 then (some (wrap64 (a0_0 + a2), a0_1, a0_2, a0_3, a0_4, a0_5, a0_6)) else (if (Int.tmod a1 7) = 1 then (some (a0_0, wrap64 (a0_1 + a2), a0_2, a0_3, a0_4, a0_5, a0_6)) else (if (Int.tmod a1 7) = 2 then (some (a0_0, a0_1, wrap64 (a0_2 + a2), a0_3, a0_4, a0_5, a0_6)) else (if (Int.tmod a1 7) = 3 then (some (a0_0, a0_1, a0_2, wrap64 (a0_3 + a2), a0_4, a0_5, a0_6)) else (if (Int.tmod a1 7) = 4 then (some (a0_0, a0_1, a0_2, a0_3, wrap64 (a0_4 + a2), a0_5, a0_6)) else (if (Int.tmod a1 7) = 5 then (some (a0_0, a0_1, a0_2, a0_3, a0_4, wrap64 (a0_5 + a2), a0_6)) else (some (a0_0, a0_1, a0_2, a0_3, a0_4, a0_5, IntKind.u64.wrap (a0_6 + (IntKind.u64.wrap (a2))))))))))
set_option maxHeartbeats 40000000 in
set_option maxRecDepth 100000 in
theorem parolelaw32_changed.calls (a0_0 : Int) (a0_1 : Int) (a0_2 : Int) (a0_3 : Int) (a0_4 : Int) (a0_5 : Int) (a0_6 : Int) (a1 : Int) (a2 : Int) (r1 : Int) (r2 : Int) (r3 : Int) (r4 : Int) (r5 : Int) (r6 : Int) (r7 : Int) (w : World) (h : parolelaw32_changed.f a0_0 a0_1 a0_2 a0_3 a0_4 a0_5 a0_6 a1 a2 = some (r1, r2, r3, r4, r5, r6, r7)) :
  Calls Try.prog 13 #[.agg #[.int .i64 a0_0, .int .i64 a0_1, .int .i64 a0_2, .int .i64 a0_3, .int .i64 a0_4, .int .i64 a0_5, .int .u64 a0_6], .int .u8 a1, .int .i64 a2] w fun e w' => e = .returned (.agg #[.int .i64 r1, .int .i64 r2, .int .i64 r3, .int .i64 r4, .int .i64 r5, .int .i64 r6, .int .u64 r7]) ∧ Below w.heap.size w w' := by
 have hu28 := Try.underlying28; have HB := aM (Below.refl w.heap.size w)
 have H : (if (Int.tmod a1 7) = 0 then (some (wrap64 (a0_0 + a2), a0_1, a0_2, a0_3, a0_4, a0_5, a0_6)) else (if (Int.tmod a1 7) = 1 then (some (a0_0, wrap64 (a0_1 + a2), a0_2, a0_3, a0_4, a0_5, a0_6)) else (if (Int.tmod a1 7) = 2 then (some (a0_0, a0_1, wrap64 (a0_2 + a2), a0_3, a0_4, a0_5, a0_6)) else (if (Int.tmod a1 7) = 3 then (some (a0_0, a0_1, a0_2, wrap64 (a0_3 + a2), a0_4, a0_5, a0_6)) else (if (Int.tmod a1 7) = 4 then (some (a0_0, a0_1, a0_2, a0_3, wrap64 (a0_4 + a2), a0_5, a0_6)) else (if (Int.tmod a1 7) = 5 then (some (a0_0, a0_1, a0_2, a0_3, a0_4, wrap64 (a0_5 + a2), a0_6)) else (some (a0_0, a0_1, a0_2, a0_3, a0_4, a0_5, IntKind.u64.wrap (a0_6 + (IntKind.u64.wrap (a2))))))))))) = some (r1, r2, r3, r4, r5, r6, r7) := h
 clear h
 by_cases c4 : (Int.tmod a1 7) = 0
 ·rw [if_pos c4] at H
  have c4b0 : ((Int.tmod a1 7) == 0) = true := beq_iff_eq.mpr c4
  have c4b1 : ((Int.tmod a1 7) != 0) = false := bne_eq_false_iff_eq.mpr c4
  clear c4
  simp only [Option.some.injEq, Prod.mk.injEq] at H
  obtain ⟨rfl, rfl, rfl, rfl, rfl, rfl, rfl⟩ := H
  go_enter Try.func13, Try.ntmps13
  go_wp2_with (first | ((with_reducible refine gate_dst (N := 3) rfl ?_); refine bE (N := 3) (cs := #[.int .i64 a0_0, .int .i64 a0_1, .int .i64 a0_2, .int .i64 a0_3, .int .i64 a0_4, .int .i64 a0_5, .int .u64 a0_6]) (t := 28) ?_; intro gb101 hg w5 hbox hb; have BK101 := aM (hbox); have GW101 := gE hg HB; have GE101 := gE hg HB; replace HB := sB HB hb; clear hb hbox hg) | ((with_reducible refine gate_dst (N := 6) rfl ?_); refine bE (N := 6) (cs := #[.int .i64 0, .int .i64 0, .int .i64 0, .int .i64 0, .int .i64 0, .int .i64 0, .int .u64 0]) (t := 28) ?_; intro gb102 hg w6 hbox hb; have BK102 := aM (hbox); have GW102 := gE hg HB; have GE102 := gE hg HB; have NB101_102 := nL hg BK101; replace BK101 := bB BK101 hb; replace HB := sB HB hb; clear hb hbox hg; have hnb7 := NB101_102.out; have hnc7 := NB101_102.out.symm; obtain ⟨hcz8_0, hcz8_1, hcz8_2, hcz8_3, hcz8_4, hcz8_5, hcz8_6, hfz8_0, hfz8_1, hfz8_2, hfz8_3, hfz8_4, hfz8_5, hfz8_6⟩ := cZ7 BK101; obtain ⟨hcz9_0, hcz9_1, hcz9_2, hcz9_3, hcz9_4, hcz9_5, hcz9_6, hfz9_0, hfz9_1, hfz9_2, hfz9_3, hfz9_4, hfz9_5, hfz9_6⟩ := cZ7 BK102))
  refine bodyPost_ret (results_cell_row rfl _ _ gb102 28 #[.int .i64 (wrap64 (a0_0 + a2)), .int .i64 a0_1, .int .i64 a0_2, .int .i64 a0_3, .int .i64 a0_4, .int .i64 a0_5, .int .u64 a0_6] (0, 0) _ rfl (by refine bM ?_; refine blk_put (cs := #[.int .i64 (wrap64 (a0_0 + a2)), .int .i64 a0_1, .int .i64 a0_2, .int .i64 a0_3, .int .i64 a0_4, .int .i64 a0_5, .int .u64 0]) ?_ 6 _ rfl; refine bM ?_; refine blk_put (cs := #[.int .i64 (wrap64 (a0_0 + a2)), .int .i64 a0_1, .int .i64 a0_2, .int .i64 a0_3, .int .i64 a0_4, .int .i64 0, .int .u64 0]) ?_ 5 _ rfl; refine bM ?_; refine blk_put (cs := #[.int .i64 (wrap64 (a0_0 + a2)), .int .i64 a0_1, .int .i64 a0_2, .int .i64 a0_3, .int .i64 0, .int .i64 0, .int .u64 0]) ?_ 4 _ rfl; refine bM ?_; refine blk_put (cs := #[.int .i64 (wrap64 (a0_0 + a2)), .int .i64 a0_1, .int .i64 a0_2, .int .i64 0, .int .i64 0, .int .i64 0, .int .u64 0]) ?_ 3 _ rfl; refine bM ?_; refine blk_put (cs := #[.int .i64 (wrap64 (a0_0 + a2)), .int .i64 a0_1, .int .i64 0, .int .i64 0, .int .i64 0, .int .i64 0, .int .u64 0]) ?_ 2 _ rfl; refine bM ?_; refine blk_put (cs := #[.int .i64 (wrap64 (a0_0 + a2)), .int .i64 0, .int .i64 0, .int .i64 0, .int .i64 0, .int .i64 0, .int .u64 0]) ?_ 1 _ rfl; refine bM ?_; refine blk_put (cs := #[.int .i64 0, .int .i64 0, .int .i64 0, .int .i64 0, .int .i64 0, .int .i64 0, .int .u64 0]) ?_ 0 _ rfl; refine bM ?_; refine blk_far ?_ NB101_102.out.symm _; exact bD BK102) Try.underlying28 rfl (by kernel_rfl)) rfl ?_
  exact ⟨by first | rfl | (simp [errW_none, errW_some] <;> rfl) | (simp [*, errW_none, errW_some] <;> rfl), sD HB⟩
 rw [if_neg c4] at H
 have c4b0 : ((Int.tmod a1 7) == 0) = false := beq_eq_false_iff_ne.mpr c4
 have c4b1 : ((Int.tmod a1 7) != 0) = true := bne_iff_ne.mpr c4
 by_cases c10 : (Int.tmod a1 7) = 1
 ·rw [if_pos c10] at H
  have c10b0 : ((Int.tmod a1 7) == 1) = true := beq_iff_eq.mpr c10
  have c10b1 : ((Int.tmod a1 7) != 1) = false := bne_eq_false_iff_eq.mpr c10
  clear c10
  simp only [Option.some.injEq, Prod.mk.injEq] at H
  obtain ⟨rfl, rfl, rfl, rfl, rfl, rfl, rfl⟩ := H
  go_enter Try.func13, Try.ntmps13
  go_wp2_with (first | ((with_reducible refine gate_dst (N := 3) rfl ?_); refine bE (N := 3) (cs := #[.int .i64 a0_0, .int .i64 a0_1, .int .i64 a0_2, .int .i64 a0_3, .int .i64 a0_4, .int .i64 a0_5, .int .u64 a0_6]) (t := 28) ?_; intro gb101 hg w11 hbox hb; have BK101 := aM (hbox); have GW101 := gE hg HB; have GE101 := gE hg HB; replace HB := sB HB hb; clear hb hbox hg) | ((with_reducible refine gate_dst (N := 6) rfl ?_); refine bE (N := 6) (cs := #[.int .i64 0, .int .i64 0, .int .i64 0, .int .i64 0, .int .i64 0, .int .i64 0, .int .u64 0]) (t := 28) ?_; intro gb102 hg w12 hbox hb; have BK102 := aM (hbox); have GW102 := gE hg HB; have GE102 := gE hg HB; have NB101_102 := nL hg BK101; replace BK101 := bB BK101 hb; replace HB := sB HB hb; clear hb hbox hg; have hnb13 := NB101_102.out; have hnc13 := NB101_102.out.symm; obtain ⟨hcz14_0, hcz14_1, hcz14_2, hcz14_3, hcz14_4, hcz14_5, hcz14_6, hfz14_0, hfz14_1, hfz14_2, hfz14_3, hfz14_4, hfz14_5, hfz14_6⟩ := cZ7 BK101; obtain ⟨hcz15_0, hcz15_1, hcz15_2, hcz15_3, hcz15_4, hcz15_5, hcz15_6, hfz15_0, hfz15_1, hfz15_2, hfz15_3, hfz15_4, hfz15_5, hfz15_6⟩ := cZ7 BK102))
  refine bodyPost_ret (results_cell_row rfl _ _ gb102 28 #[.int .i64 a0_0, .int .i64 (wrap64 (a0_1 + a2)), .int .i64 a0_2, .int .i64 a0_3, .int .i64 a0_4, .int .i64 a0_5, .int .u64 a0_6] (0, 0) _ rfl (by refine bM ?_; refine blk_put (cs := #[.int .i64 a0_0, .int .i64 (wrap64 (a0_1 + a2)), .int .i64 a0_2, .int .i64 a0_3, .int .i64 a0_4, .int .i64 a0_5, .int .u64 0]) ?_ 6 _ rfl; refine bM ?_; refine blk_put (cs := #[.int .i64 a0_0, .int .i64 (wrap64 (a0_1 + a2)), .int .i64 a0_2, .int .i64 a0_3, .int .i64 a0_4, .int .i64 0, .int .u64 0]) ?_ 5 _ rfl; refine bM ?_; refine blk_put (cs := #[.int .i64 a0_0, .int .i64 (wrap64 (a0_1 + a2)), .int .i64 a0_2, .int .i64 a0_3, .int .i64 0, .int .i64 0, .int .u64 0]) ?_ 4 _ rfl; refine bM ?_; refine blk_put (cs := #[.int .i64 a0_0, .int .i64 (wrap64 (a0_1 + a2)), .int .i64 a0_2, .int .i64 0, .int .i64 0, .int .i64 0, .int .u64 0]) ?_ 3 _ rfl; refine bM ?_; refine blk_put (cs := #[.int .i64 a0_0, .int .i64 (wrap64 (a0_1 + a2)), .int .i64 0, .int .i64 0, .int .i64 0, .int .i64 0, .int .u64 0]) ?_ 2 _ rfl; refine bM ?_; refine blk_put (cs := #[.int .i64 a0_0, .int .i64 0, .int .i64 0, .int .i64 0, .int .i64 0, .int .i64 0, .int .u64 0]) ?_ 1 _ rfl; refine bM ?_; refine blk_put (cs := #[.int .i64 0, .int .i64 0, .int .i64 0, .int .i64 0, .int .i64 0, .int .i64 0, .int .u64 0]) ?_ 0 _ rfl; refine bM ?_; refine blk_far ?_ NB101_102.out.symm _; exact bD BK102) Try.underlying28 rfl (by kernel_rfl)) rfl ?_
  exact ⟨by first | rfl | (simp [errW_none, errW_some] <;> rfl) | (simp [*, errW_none, errW_some] <;> rfl), sD HB⟩
 rw [if_neg c10] at H
 have c10b0 : ((Int.tmod a1 7) == 1) = false := beq_eq_false_iff_ne.mpr c10
 have c10b1 : ((Int.tmod a1 7) != 1) = true := bne_iff_ne.mpr c10
 by_cases c16 : (Int.tmod a1 7) = 2
 ·rw [if_pos c16] at H
  have c16b0 : ((Int.tmod a1 7) == 2) = true := beq_iff_eq.mpr c16
  have c16b1 : ((Int.tmod a1 7) != 2) = false := bne_eq_false_iff_eq.mpr c16
  clear c16
  simp only [Option.some.injEq, Prod.mk.injEq] at H
  obtain ⟨rfl, rfl, rfl, rfl, rfl, rfl, rfl⟩ := H
  go_enter Try.func13, Try.ntmps13
  go_wp2_with (first | ((with_reducible refine gate_dst (N := 3) rfl ?_); refine bE (N := 3) (cs := #[.int .i64 a0_0, .int .i64 a0_1, .int .i64 a0_2, .int .i64 a0_3, .int .i64 a0_4, .int .i64 a0_5, .int .u64 a0_6]) (t := 28) ?_; intro gb101 hg w17 hbox hb; have BK101 := aM (hbox); have GW101 := gE hg HB; have GE101 := gE hg HB; replace HB := sB HB hb; clear hb hbox hg) | ((with_reducible refine gate_dst (N := 6) rfl ?_); refine bE (N := 6) (cs := #[.int .i64 0, .int .i64 0, .int .i64 0, .int .i64 0, .int .i64 0, .int .i64 0, .int .u64 0]) (t := 28) ?_; intro gb102 hg w18 hbox hb; have BK102 := aM (hbox); have GW102 := gE hg HB; have GE102 := gE hg HB; have NB101_102 := nL hg BK101; replace BK101 := bB BK101 hb; replace HB := sB HB hb; clear hb hbox hg; have hnb19 := NB101_102.out; have hnc19 := NB101_102.out.symm; obtain ⟨hcz20_0, hcz20_1, hcz20_2, hcz20_3, hcz20_4, hcz20_5, hcz20_6, hfz20_0, hfz20_1, hfz20_2, hfz20_3, hfz20_4, hfz20_5, hfz20_6⟩ := cZ7 BK101; obtain ⟨hcz21_0, hcz21_1, hcz21_2, hcz21_3, hcz21_4, hcz21_5, hcz21_6, hfz21_0, hfz21_1, hfz21_2, hfz21_3, hfz21_4, hfz21_5, hfz21_6⟩ := cZ7 BK102))
  refine bodyPost_ret (results_cell_row rfl _ _ gb102 28 #[.int .i64 a0_0, .int .i64 a0_1, .int .i64 (wrap64 (a0_2 + a2)), .int .i64 a0_3, .int .i64 a0_4, .int .i64 a0_5, .int .u64 a0_6] (0, 0) _ rfl (by refine bM ?_; refine blk_put (cs := #[.int .i64 a0_0, .int .i64 a0_1, .int .i64 (wrap64 (a0_2 + a2)), .int .i64 a0_3, .int .i64 a0_4, .int .i64 a0_5, .int .u64 0]) ?_ 6 _ rfl; refine bM ?_; refine blk_put (cs := #[.int .i64 a0_0, .int .i64 a0_1, .int .i64 (wrap64 (a0_2 + a2)), .int .i64 a0_3, .int .i64 a0_4, .int .i64 0, .int .u64 0]) ?_ 5 _ rfl; refine bM ?_; refine blk_put (cs := #[.int .i64 a0_0, .int .i64 a0_1, .int .i64 (wrap64 (a0_2 + a2)), .int .i64 a0_3, .int .i64 0, .int .i64 0, .int .u64 0]) ?_ 4 _ rfl; refine bM ?_; refine blk_put (cs := #[.int .i64 a0_0, .int .i64 a0_1, .int .i64 (wrap64 (a0_2 + a2)), .int .i64 0, .int .i64 0, .int .i64 0, .int .u64 0]) ?_ 3 _ rfl; refine bM ?_; refine blk_put (cs := #[.int .i64 a0_0, .int .i64 a0_1, .int .i64 0, .int .i64 0, .int .i64 0, .int .i64 0, .int .u64 0]) ?_ 2 _ rfl; refine bM ?_; refine blk_put (cs := #[.int .i64 a0_0, .int .i64 0, .int .i64 0, .int .i64 0, .int .i64 0, .int .i64 0, .int .u64 0]) ?_ 1 _ rfl; refine bM ?_; refine blk_put (cs := #[.int .i64 0, .int .i64 0, .int .i64 0, .int .i64 0, .int .i64 0, .int .i64 0, .int .u64 0]) ?_ 0 _ rfl; refine bM ?_; refine blk_far ?_ NB101_102.out.symm _; exact bD BK102) Try.underlying28 rfl (by kernel_rfl)) rfl ?_
  exact ⟨by first | rfl | (simp [errW_none, errW_some] <;> rfl) | (simp [*, errW_none, errW_some] <;> rfl), sD HB⟩
 rw [if_neg c16] at H
 have c16b0 : ((Int.tmod a1 7) == 2) = false := beq_eq_false_iff_ne.mpr c16
 have c16b1 : ((Int.tmod a1 7) != 2) = true := bne_iff_ne.mpr c16
 by_cases c22 : (Int.tmod a1 7) = 3
 ·rw [if_pos c22] at H
  have c22b0 : ((Int.tmod a1 7) == 3) = true := beq_iff_eq.mpr c22
  have c22b1 : ((Int.tmod a1 7) != 3) = false := bne_eq_false_iff_eq.mpr c22
  clear c22
  simp only [Option.some.injEq, Prod.mk.injEq] at H
  obtain ⟨rfl, rfl, rfl, rfl, rfl, rfl, rfl⟩ := H
  go_enter Try.func13, Try.ntmps13
  go_wp2_with (first | ((with_reducible refine gate_dst (N := 3) rfl ?_); refine bE (N := 3) (cs := #[.int .i64 a0_0, .int .i64 a0_1, .int .i64 a0_2, .int .i64 a0_3, .int .i64 a0_4, .int .i64 a0_5, .int .u64 a0_6]) (t := 28) ?_; intro gb101 hg w23 hbox hb; have BK101 := aM (hbox); have GW101 := gE hg HB; have GE101 := gE hg HB; replace HB := sB HB hb; clear hb hbox hg) | ((with_reducible refine gate_dst (N := 6) rfl ?_); refine bE (N := 6) (cs := #[.int .i64 0, .int .i64 0, .int .i64 0, .int .i64 0, .int .i64 0, .int .i64 0, .int .u64 0]) (t := 28) ?_; intro gb102 hg w24 hbox hb; have BK102 := aM (hbox); have GW102 := gE hg HB; have GE102 := gE hg HB; have NB101_102 := nL hg BK101; replace BK101 := bB BK101 hb; replace HB := sB HB hb; clear hb hbox hg; have hnb25 := NB101_102.out; have hnc25 := NB101_102.out.symm; obtain ⟨hcz26_0, hcz26_1, hcz26_2, hcz26_3, hcz26_4, hcz26_5, hcz26_6, hfz26_0, hfz26_1, hfz26_2, hfz26_3, hfz26_4, hfz26_5, hfz26_6⟩ := cZ7 BK101; obtain ⟨hcz27_0, hcz27_1, hcz27_2, hcz27_3, hcz27_4, hcz27_5, hcz27_6, hfz27_0, hfz27_1, hfz27_2, hfz27_3, hfz27_4, hfz27_5, hfz27_6⟩ := cZ7 BK102))
  refine bodyPost_ret (results_cell_row rfl _ _ gb102 28 #[.int .i64 a0_0, .int .i64 a0_1, .int .i64 a0_2, .int .i64 (wrap64 (a0_3 + a2)), .int .i64 a0_4, .int .i64 a0_5, .int .u64 a0_6] (0, 0) _ rfl (by refine bM ?_; refine blk_put (cs := #[.int .i64 a0_0, .int .i64 a0_1, .int .i64 a0_2, .int .i64 (wrap64 (a0_3 + a2)), .int .i64 a0_4, .int .i64 a0_5, .int .u64 0]) ?_ 6 _ rfl; refine bM ?_; refine blk_put (cs := #[.int .i64 a0_0, .int .i64 a0_1, .int .i64 a0_2, .int .i64 (wrap64 (a0_3 + a2)), .int .i64 a0_4, .int .i64 0, .int .u64 0]) ?_ 5 _ rfl; refine bM ?_; refine blk_put (cs := #[.int .i64 a0_0, .int .i64 a0_1, .int .i64 a0_2, .int .i64 (wrap64 (a0_3 + a2)), .int .i64 0, .int .i64 0, .int .u64 0]) ?_ 4 _ rfl; refine bM ?_; refine blk_put (cs := #[.int .i64 a0_0, .int .i64 a0_1, .int .i64 a0_2, .int .i64 0, .int .i64 0, .int .i64 0, .int .u64 0]) ?_ 3 _ rfl; refine bM ?_; refine blk_put (cs := #[.int .i64 a0_0, .int .i64 a0_1, .int .i64 0, .int .i64 0, .int .i64 0, .int .i64 0, .int .u64 0]) ?_ 2 _ rfl; refine bM ?_; refine blk_put (cs := #[.int .i64 a0_0, .int .i64 0, .int .i64 0, .int .i64 0, .int .i64 0, .int .i64 0, .int .u64 0]) ?_ 1 _ rfl; refine bM ?_; refine blk_put (cs := #[.int .i64 0, .int .i64 0, .int .i64 0, .int .i64 0, .int .i64 0, .int .i64 0, .int .u64 0]) ?_ 0 _ rfl; refine bM ?_; refine blk_far ?_ NB101_102.out.symm _; exact bD BK102) Try.underlying28 rfl (by kernel_rfl)) rfl ?_
  exact ⟨by first | rfl | (simp [errW_none, errW_some] <;> rfl) | (simp [*, errW_none, errW_some] <;> rfl), sD HB⟩
 rw [if_neg c22] at H
 have c22b0 : ((Int.tmod a1 7) == 3) = false := beq_eq_false_iff_ne.mpr c22
 have c22b1 : ((Int.tmod a1 7) != 3) = true := bne_iff_ne.mpr c22
 by_cases c28 : (Int.tmod a1 7) = 4
 ·rw [if_pos c28] at H
  have c28b0 : ((Int.tmod a1 7) == 4) = true := beq_iff_eq.mpr c28
  have c28b1 : ((Int.tmod a1 7) != 4) = false := bne_eq_false_iff_eq.mpr c28
  clear c28
  simp only [Option.some.injEq, Prod.mk.injEq] at H
  obtain ⟨rfl, rfl, rfl, rfl, rfl, rfl, rfl⟩ := H
  go_enter Try.func13, Try.ntmps13
  go_wp2_with (first | ((with_reducible refine gate_dst (N := 3) rfl ?_); refine bE (N := 3) (cs := #[.int .i64 a0_0, .int .i64 a0_1, .int .i64 a0_2, .int .i64 a0_3, .int .i64 a0_4, .int .i64 a0_5, .int .u64 a0_6]) (t := 28) ?_; intro gb101 hg w29 hbox hb; have BK101 := aM (hbox); have GW101 := gE hg HB; have GE101 := gE hg HB; replace HB := sB HB hb; clear hb hbox hg) | ((with_reducible refine gate_dst (N := 6) rfl ?_); refine bE (N := 6) (cs := #[.int .i64 0, .int .i64 0, .int .i64 0, .int .i64 0, .int .i64 0, .int .i64 0, .int .u64 0]) (t := 28) ?_; intro gb102 hg w30 hbox hb; have BK102 := aM (hbox); have GW102 := gE hg HB; have GE102 := gE hg HB; have NB101_102 := nL hg BK101; replace BK101 := bB BK101 hb; replace HB := sB HB hb; clear hb hbox hg; have hnb31 := NB101_102.out; have hnc31 := NB101_102.out.symm; obtain ⟨hcz32_0, hcz32_1, hcz32_2, hcz32_3, hcz32_4, hcz32_5, hcz32_6, hfz32_0, hfz32_1, hfz32_2, hfz32_3, hfz32_4, hfz32_5, hfz32_6⟩ := cZ7 BK101; obtain ⟨hcz33_0, hcz33_1, hcz33_2, hcz33_3, hcz33_4, hcz33_5, hcz33_6, hfz33_0, hfz33_1, hfz33_2, hfz33_3, hfz33_4, hfz33_5, hfz33_6⟩ := cZ7 BK102))
  refine bodyPost_ret (results_cell_row rfl _ _ gb102 28 #[.int .i64 a0_0, .int .i64 a0_1, .int .i64 a0_2, .int .i64 a0_3, .int .i64 (wrap64 (a0_4 + a2)), .int .i64 a0_5, .int .u64 a0_6] (0, 0) _ rfl (by refine bM ?_; refine blk_put (cs := #[.int .i64 a0_0, .int .i64 a0_1, .int .i64 a0_2, .int .i64 a0_3, .int .i64 (wrap64 (a0_4 + a2)), .int .i64 a0_5, .int .u64 0]) ?_ 6 _ rfl; refine bM ?_; refine blk_put (cs := #[.int .i64 a0_0, .int .i64 a0_1, .int .i64 a0_2, .int .i64 a0_3, .int .i64 (wrap64 (a0_4 + a2)), .int .i64 0, .int .u64 0]) ?_ 5 _ rfl; refine bM ?_; refine blk_put (cs := #[.int .i64 a0_0, .int .i64 a0_1, .int .i64 a0_2, .int .i64 a0_3, .int .i64 0, .int .i64 0, .int .u64 0]) ?_ 4 _ rfl; refine bM ?_; refine blk_put (cs := #[.int .i64 a0_0, .int .i64 a0_1, .int .i64 a0_2, .int .i64 0, .int .i64 0, .int .i64 0, .int .u64 0]) ?_ 3 _ rfl; refine bM ?_; refine blk_put (cs := #[.int .i64 a0_0, .int .i64 a0_1, .int .i64 0, .int .i64 0, .int .i64 0, .int .i64 0, .int .u64 0]) ?_ 2 _ rfl; refine bM ?_; refine blk_put (cs := #[.int .i64 a0_0, .int .i64 0, .int .i64 0, .int .i64 0, .int .i64 0, .int .i64 0, .int .u64 0]) ?_ 1 _ rfl; refine bM ?_; refine blk_put (cs := #[.int .i64 0, .int .i64 0, .int .i64 0, .int .i64 0, .int .i64 0, .int .i64 0, .int .u64 0]) ?_ 0 _ rfl; refine bM ?_; refine blk_far ?_ NB101_102.out.symm _; exact bD BK102) Try.underlying28 rfl (by kernel_rfl)) rfl ?_
  exact ⟨by first | rfl | (simp [errW_none, errW_some] <;> rfl) | (simp [*, errW_none, errW_some] <;> rfl), sD HB⟩
 rw [if_neg c28] at H
 have c28b0 : ((Int.tmod a1 7) == 4) = false := beq_eq_false_iff_ne.mpr c28
 have c28b1 : ((Int.tmod a1 7) != 4) = true := bne_iff_ne.mpr c28
 by_cases c34 : (Int.tmod a1 7) = 5
 ·rw [if_pos c34] at H
  have c34b0 : ((Int.tmod a1 7) == 5) = true := beq_iff_eq.mpr c34
  have c34b1 : ((Int.tmod a1 7) != 5) = false := bne_eq_false_iff_eq.mpr c34
  clear c34
  simp only [Option.some.injEq, Prod.mk.injEq] at H
  obtain ⟨rfl, rfl, rfl, rfl, rfl, rfl, rfl⟩ := H
  go_enter Try.func13, Try.ntmps13
  go_wp2_with (first | ((with_reducible refine gate_dst (N := 3) rfl ?_); refine bE (N := 3) (cs := #[.int .i64 a0_0, .int .i64 a0_1, .int .i64 a0_2, .int .i64 a0_3, .int .i64 a0_4, .int .i64 a0_5, .int .u64 a0_6]) (t := 28) ?_; intro gb101 hg w35 hbox hb; have BK101 := aM (hbox); have GW101 := gE hg HB; have GE101 := gE hg HB; replace HB := sB HB hb; clear hb hbox hg) | ((with_reducible refine gate_dst (N := 6) rfl ?_); refine bE (N := 6) (cs := #[.int .i64 0, .int .i64 0, .int .i64 0, .int .i64 0, .int .i64 0, .int .i64 0, .int .u64 0]) (t := 28) ?_; intro gb102 hg w36 hbox hb; have BK102 := aM (hbox); have GW102 := gE hg HB; have GE102 := gE hg HB; have NB101_102 := nL hg BK101; replace BK101 := bB BK101 hb; replace HB := sB HB hb; clear hb hbox hg; have hnb37 := NB101_102.out; have hnc37 := NB101_102.out.symm; obtain ⟨hcz38_0, hcz38_1, hcz38_2, hcz38_3, hcz38_4, hcz38_5, hcz38_6, hfz38_0, hfz38_1, hfz38_2, hfz38_3, hfz38_4, hfz38_5, hfz38_6⟩ := cZ7 BK101; obtain ⟨hcz39_0, hcz39_1, hcz39_2, hcz39_3, hcz39_4, hcz39_5, hcz39_6, hfz39_0, hfz39_1, hfz39_2, hfz39_3, hfz39_4, hfz39_5, hfz39_6⟩ := cZ7 BK102))
  refine bodyPost_ret (results_cell_row rfl _ _ gb102 28 #[.int .i64 a0_0, .int .i64 a0_1, .int .i64 a0_2, .int .i64 a0_3, .int .i64 a0_4, .int .i64 (wrap64 (a0_5 + a2)), .int .u64 a0_6] (0, 0) _ rfl (by refine bM ?_; refine blk_put (cs := #[.int .i64 a0_0, .int .i64 a0_1, .int .i64 a0_2, .int .i64 a0_3, .int .i64 a0_4, .int .i64 (wrap64 (a0_5 + a2)), .int .u64 0]) ?_ 6 _ rfl; refine bM ?_; refine blk_put (cs := #[.int .i64 a0_0, .int .i64 a0_1, .int .i64 a0_2, .int .i64 a0_3, .int .i64 a0_4, .int .i64 0, .int .u64 0]) ?_ 5 _ rfl; refine bM ?_; refine blk_put (cs := #[.int .i64 a0_0, .int .i64 a0_1, .int .i64 a0_2, .int .i64 a0_3, .int .i64 0, .int .i64 0, .int .u64 0]) ?_ 4 _ rfl; refine bM ?_; refine blk_put (cs := #[.int .i64 a0_0, .int .i64 a0_1, .int .i64 a0_2, .int .i64 0, .int .i64 0, .int .i64 0, .int .u64 0]) ?_ 3 _ rfl; refine bM ?_; refine blk_put (cs := #[.int .i64 a0_0, .int .i64 a0_1, .int .i64 0, .int .i64 0, .int .i64 0, .int .i64 0, .int .u64 0]) ?_ 2 _ rfl; refine bM ?_; refine blk_put (cs := #[.int .i64 a0_0, .int .i64 0, .int .i64 0, .int .i64 0, .int .i64 0, .int .i64 0, .int .u64 0]) ?_ 1 _ rfl; refine bM ?_; refine blk_put (cs := #[.int .i64 0, .int .i64 0, .int .i64 0, .int .i64 0, .int .i64 0, .int .i64 0, .int .u64 0]) ?_ 0 _ rfl; refine bM ?_; refine blk_far ?_ NB101_102.out.symm _; exact bD BK102) Try.underlying28 rfl (by kernel_rfl)) rfl ?_
  exact ⟨by first | rfl | (simp [errW_none, errW_some] <;> rfl) | (simp [*, errW_none, errW_some] <;> rfl), sD HB⟩
 rw [if_neg c34] at H
 have c34b0 : ((Int.tmod a1 7) == 5) = false := beq_eq_false_iff_ne.mpr c34
 have c34b1 : ((Int.tmod a1 7) != 5) = true := bne_iff_ne.mpr c34
 simp only [Option.some.injEq, Prod.mk.injEq] at H
 obtain ⟨rfl, rfl, rfl, rfl, rfl, rfl, rfl⟩ := H
 go_enter Try.func13, Try.ntmps13
 go_wp2_with (first | ((with_reducible refine gate_dst (N := 3) rfl ?_); refine bE (N := 3) (cs := #[.int .i64 a0_0, .int .i64 a0_1, .int .i64 a0_2, .int .i64 a0_3, .int .i64 a0_4, .int .i64 a0_5, .int .u64 a0_6]) (t := 28) ?_; intro gb101 hg w40 hbox hb; have BK101 := aM (hbox); have GW101 := gE hg HB; have GE101 := gE hg HB; replace HB := sB HB hb; clear hb hbox hg) | ((with_reducible refine gate_dst (N := 6) rfl ?_); refine bE (N := 6) (cs := #[.int .i64 0, .int .i64 0, .int .i64 0, .int .i64 0, .int .i64 0, .int .i64 0, .int .u64 0]) (t := 28) ?_; intro gb102 hg w41 hbox hb; have BK102 := aM (hbox); have GW102 := gE hg HB; have GE102 := gE hg HB; have NB101_102 := nL hg BK101; replace BK101 := bB BK101 hb; replace HB := sB HB hb; clear hb hbox hg; have hnb42 := NB101_102.out; have hnc42 := NB101_102.out.symm; obtain ⟨hcz43_0, hcz43_1, hcz43_2, hcz43_3, hcz43_4, hcz43_5, hcz43_6, hfz43_0, hfz43_1, hfz43_2, hfz43_3, hfz43_4, hfz43_5, hfz43_6⟩ := cZ7 BK101; obtain ⟨hcz44_0, hcz44_1, hcz44_2, hcz44_3, hcz44_4, hcz44_5, hcz44_6, hfz44_0, hfz44_1, hfz44_2, hfz44_3, hfz44_4, hfz44_5, hfz44_6⟩ := cZ7 BK102))
 refine bodyPost_ret (results_cell_row rfl _ _ gb102 28 #[.int .i64 a0_0, .int .i64 a0_1, .int .i64 a0_2, .int .i64 a0_3, .int .i64 a0_4, .int .i64 a0_5, .int .u64 (IntKind.u64.wrap (a0_6 + (IntKind.u64.wrap (a2))))] (0, 0) _ rfl (by refine bM ?_; refine blk_put (cs := #[.int .i64 a0_0, .int .i64 a0_1, .int .i64 a0_2, .int .i64 a0_3, .int .i64 a0_4, .int .i64 a0_5, .int .u64 0]) ?_ 6 _ rfl; refine bM ?_; refine blk_put (cs := #[.int .i64 a0_0, .int .i64 a0_1, .int .i64 a0_2, .int .i64 a0_3, .int .i64 a0_4, .int .i64 0, .int .u64 0]) ?_ 5 _ rfl; refine bM ?_; refine blk_put (cs := #[.int .i64 a0_0, .int .i64 a0_1, .int .i64 a0_2, .int .i64 a0_3, .int .i64 0, .int .i64 0, .int .u64 0]) ?_ 4 _ rfl; refine bM ?_; refine blk_put (cs := #[.int .i64 a0_0, .int .i64 a0_1, .int .i64 a0_2, .int .i64 0, .int .i64 0, .int .i64 0, .int .u64 0]) ?_ 3 _ rfl; refine bM ?_; refine blk_put (cs := #[.int .i64 a0_0, .int .i64 a0_1, .int .i64 0, .int .i64 0, .int .i64 0, .int .i64 0, .int .u64 0]) ?_ 2 _ rfl; refine bM ?_; refine blk_put (cs := #[.int .i64 a0_0, .int .i64 0, .int .i64 0, .int .i64 0, .int .i64 0, .int .i64 0, .int .u64 0]) ?_ 1 _ rfl; refine bM ?_; refine blk_put (cs := #[.int .i64 0, .int .i64 0, .int .i64 0, .int .i64 0, .int .i64 0, .int .i64 0, .int .u64 0]) ?_ 0 _ rfl; refine bM ?_; refine blk_far ?_ NB101_102.out.symm _; exact bD BK102) Try.underlying28 rfl (by kernel_rfl)) rfl ?_
 exact ⟨by first | rfl | (simp [errW_none, errW_some] <;> rfl) | (simp [*, errW_none, errW_some] <;> rfl), sD HB⟩
end Go.Proofs.Ytfdoncgljohndaa.P

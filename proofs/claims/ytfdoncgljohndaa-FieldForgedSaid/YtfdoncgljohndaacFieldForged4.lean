/- A part of the claim FieldForged: lemmas, printed functions with their contracts, plain laws. -/
import Derived.Test.YtfdoncgljohndaacFieldForged3
set_option linter.unusedVariables false
set_option linter.unusedSimpArgs false
namespace Go.Proofs.Ytfdoncgljohndaa.P
open Go.Proofs.YtfdoncgljohndaaH Go.RowKit Go.Proofs.YtfdoncgljohndaaW.PrintWords Go.Proofs.YtfdoncgljohndaaW.PrintLast Go.Proofs.YtfdoncgljohndaaW.PrintMore
attribute [local go_sem] max2_int min2_int max_two min_two max_three min_three max_four min_four   -- for this text's walks alone
attribute [local go_sem] Go.Proofs.YtfdoncgljohndaaH.cell_set_map
attribute [local go_sem high] eqA40 eqA45
def parolelaw32_examples0.j0 : Nat → Bool → Option (Bool)
 | 0, _ => none
 | k + 1, x57 => if x57 = true then (some false) else ((parolelaw32_bound.f k 0 0 90 38 0 0).bind fun bt147 => (if ((bt147.1 == 1 && (bt147.2.1 == 2)) && (bt147.2.2 == 0)) = true then ((parolelaw32_bound.f k 0 0 90 5 0 0).bind fun bt150 => (if ((bt150.1 == 1 && (bt150.2.1 == 1)) && (bt150.2.2 == 0)) = true then ((parolelaw32_bound.f k 0 0 5 5 0 0).bind fun bt153 => (if ((bt153.1 == 0 && (bt153.2.1 == 1)) && (bt153.2.2 == 0)) = true then ((parolelaw32_bound.f k 0 0 9 5 1 0).bind fun bt156 => (some (bt156.2.2 == 320))) else (some false))) else (some false))) else (some false)))
def parolelaw32_examples0.f (k : Nat)  : Option (Bool) := (some (([99] : List Int) : List Int)).bind fun y101 => ((field_Sign.f k 99 0 1 7 5 5 0 0).bind fun bt104 => ((field_Sign.f k 99 0 4 7 90 30 1 0).bind fun bt112 => ((field_Right.f k y101 bt104.1 bt104.2.1 bt104.2.2.1 bt104.2.2.2.1 bt104.2.2.2.2.1 bt104.2.2.2.2.2.1 bt104.2.2.2.2.2.2).bind fun t122 => (if t122 = 0 then ((field_Right.f k y101 bt112.1 bt112.2.1 bt112.2.2.1 bt112.2.2.2.1 bt112.2.2.2.2.1 0 bt112.2.2.2.2.2.2).bind fun t123 => (if t123 = 320 then ((field_Right.f k ([] : List Int) bt104.1 bt104.2.1 bt104.2.2.1 bt104.2.2.2.1 bt104.2.2.2.2.1 bt104.2.2.2.2.2.1 bt104.2.2.2.2.2.2).bind fun t124 => (if t124 = 320 then ((field_Gather.f k y101 (([(⟨bt112.1, bt112.2.1, bt112.2.2.1, bt112.2.2.2.1, bt112.2.2.2.2.1, bt112.2.2.2.2.2.1, bt112.2.2.2.2.2.2⟩ : S28), (⟨bt104.1, bt104.2.1, bt104.2.2.1, bt104.2.2.2.1, bt104.2.2.2.2.1, bt104.2.2.2.2.2.1, bt104.2.2.2.2.2.2⟩ : S28), (⟨bt112.1, bt112.2.1, bt112.2.2.1, bt112.2.2.2.1, bt112.2.2.2.2.1, 0, bt112.2.2.2.2.2.2⟩ : S28), (⟨bt112.1, bt112.2.1, bt112.2.2.1, bt112.2.2.2.1, bt112.2.2.2.2.1, bt112.2.2.2.2.2.1, bt112.2.2.2.2.2.2⟩ : S28)] : List (S28))) 7).bind fun bt128 => (if (!(bt128.1 == 7) || (!(bt128.2.1 == 1) || (!(bt128.2.2.1 == 90) || (!(bt128.2.2.2.1 == 30) || (!(bt128.2.2.2.2.1 == 1) || (!(bt128.2.2.2.2.2 == 2))))))) = true then (parolelaw32_examples0.j0 k true) else ((field_Gather.f k y101 (([(⟨bt104.1, bt104.2.1, bt104.2.2.1, bt104.2.2.2.1, bt104.2.2.2.2.1, bt104.2.2.2.2.2.1, bt104.2.2.2.2.2.2⟩ : S28)] : List (S28))) 8).bind fun bt137 => (if (!(bt137.1 == 8) || (!(bt137.2.1 == 0) || (!(bt137.2.2.1 == 0) || (!(bt137.2.2.2.1 == 0) || (!(bt137.2.2.2.2.1 == 0) || (!(bt137.2.2.2.2.2 == 0))))))) = true then (parolelaw32_examples0.j0 k true) else ((field_Tag.f k 99 bt104.1 bt104.2.1 bt104.2.2.1 bt104.2.2.2.1 bt104.2.2.2.2.1 bt104.2.2.2.2.2.1 bt104.2.2.2.2.2.2).bind fun t143 => (parolelaw32_examples0.j0 k (bt104.2.2.2.2.2.2 != t143))))))) else (parolelaw32_examples0.j0 k true))) else (parolelaw32_examples0.j0 k true))) else (parolelaw32_examples0.j0 k true)))))
def parolelaw32_examples0.T7 : Bool × List (List Nat × List Nat) := (true, [([], []), ([], []), ([0, 1], [0, 1]), ([2], [2]), ([3, 2], [3]), ([4], [4]), ([4], [4]), ([5, 6, 4, 4], [4, 5, 6]), ([7, 4], [4, 7]), ([4, 8], [4, 8]), ([9, 7], [9]), ([10], [10]), ([11, 10, 10], [10, 11]), ([12, 10], [10, 12]), ([10, 13], [10, 13]), ([14, 12], [14]), ([15], [15]), ([15], [15]), ([15], [15]), ([15], [15]), ([15], [15]), ([17, 18, 19, 20, 15], [15, 17, 18, 19, 20]), ([16, 21, 15, 15], [15, 16, 21]), ([15], [15]), ([22, 23, 15], [15, 22, 23]), ([15, 24], [15, 24]), ([25, 22], [25]), ([26], [26]), ([26], [26]), ([28, 26], [26, 28]), ([27, 29, 26, 26], [26, 27, 29]), ([26], [26]), ([30, 31, 26], [26, 30, 31]), ([26, 32], [26, 32]), ([33, 30], [33]), ([34], [34]), ([35, 34], [34, 35]), ([34], [34]), ([37, 34, 34], [34, 37]), ([36, 38, 34], [34, 36, 38]), ([34, 39], [34, 39])])
def parolelaw32_examples0.B7 : List Nat := [0, 0, 3, 7, 15, 31, 31, 127, 255, 511, 1023, 2047, 4095, 8191, 16383, 32767, 65535, 65535, 65535, 65535, 65535, 2031615, 4194303, 65535, 16777215, 33554431, 67108863, 134217727, 134217727, 402653183, 1073741823, 134217727, 4294967295, 8589934591, 17179869183, 34359738367, 68719476735, 34359738367, 171798691839, 549755813887, 1099511627775]
theorem parolelaw32_examples0.tab7 : rtab .any (opsOf Try.f10 7) = parolelaw32_examples0.T7 := by kernel_rfl
theorem parolelaw32_examples0.bits7 : waitsOk parolelaw32_examples0.T7.2 parolelaw32_examples0.B7 = true := by kernel_rfl
def parolelaw32_examples0.T12 : Bool × List (List Nat × List Nat) := (true, [([], []), ([0], [0]), ([], []), ([1, 2], [1, 2]), ([3, 1], [3]), ([4], [4]), ([5, 4, 4], [4, 5]), ([4], [4]), ([6, 7, 4], [4, 6, 7]), ([4, 8], [4, 8]), ([9, 6], [9]), ([10], [10]), ([11, 10, 10], [10, 11]), ([10], [10]), ([12, 13, 10], [10, 12, 13]), ([10, 14], [10, 14]), ([15, 12], [15]), ([16], [16]), ([17, 16, 16], [16, 17]), ([18, 16], [16, 18]), ([19, 16], [16, 19]), ([16, 20], [16, 20]), ([21, 18, 0, 1, 2, 3, 4, 5, 6, 7, 8, 9, 10, 11, 12, 13, 14, 15, 16, 17, 18, 19, 20, 21], [21])])
def parolelaw32_examples0.B12 : List Nat := [0, 1, 0, 7, 15, 31, 63, 31, 255, 511, 1023, 2047, 4095, 2047, 16383, 32767, 65535, 131071, 262143, 524287, 1048575, 2097151, 4194303]
theorem parolelaw32_examples0.tab12 : rtab .any (opsOf Try.f10 12) = parolelaw32_examples0.T12 := by kernel_rfl
theorem parolelaw32_examples0.bits12 : waitsOk parolelaw32_examples0.T12.2 parolelaw32_examples0.B12 = true := by kernel_rfl
set_option maxHeartbeats 40000000 in
set_option maxRecDepth 100000 in
theorem parolelaw32_examples0.calls (k : Nat)  (r : Bool) (w : World) (hT : r = true) (h : parolelaw32_examples0.f k  = some r) :
  Calls Try.prog 10 #[] w fun e w' => e = .returned (.bool r) ∧ Below w.heap.size w w' := by
 have hu28 := Try.underlying28; have hu40 := Try.underlying40; have hu43 := Try.underlying43; have hu45 := Try.underlying45
 have hfd45_1 : ∀ (x0 x1 x2 : Value) (W : World), (Instr.field 45 (.agg #[x0, x1, x2]) 1).run Try.prog W = .ok (x2) W := fun _ _ _ _ => by kernel_rfl
 have HB := aM (Below.refl w.heap.size w); have HT := aM hT; clear hT
 have H : ((some (([99] : List Int) : List Int)).bind fun y101 => ((field_Sign.f k 99 0 1 7 5 5 0 0).bind fun bt104 => ((field_Sign.f k 99 0 4 7 90 30 1 0).bind fun bt112 => ((field_Right.f k y101 bt104.1 bt104.2.1 bt104.2.2.1 bt104.2.2.2.1 bt104.2.2.2.2.1 bt104.2.2.2.2.2.1 bt104.2.2.2.2.2.2).bind fun t122 => (if t122 = 0 then ((field_Right.f k y101 bt112.1 bt112.2.1 bt112.2.2.1 bt112.2.2.2.1 bt112.2.2.2.2.1 0 bt112.2.2.2.2.2.2).bind fun t123 => (if t123 = 320 then ((field_Right.f k ([] : List Int) bt104.1 bt104.2.1 bt104.2.2.1 bt104.2.2.2.1 bt104.2.2.2.2.1 bt104.2.2.2.2.2.1 bt104.2.2.2.2.2.2).bind fun t124 => (if t124 = 320 then ((field_Gather.f k y101 (([(⟨bt112.1, bt112.2.1, bt112.2.2.1, bt112.2.2.2.1, bt112.2.2.2.2.1, bt112.2.2.2.2.2.1, bt112.2.2.2.2.2.2⟩ : S28), (⟨bt104.1, bt104.2.1, bt104.2.2.1, bt104.2.2.2.1, bt104.2.2.2.2.1, bt104.2.2.2.2.2.1, bt104.2.2.2.2.2.2⟩ : S28), (⟨bt112.1, bt112.2.1, bt112.2.2.1, bt112.2.2.2.1, bt112.2.2.2.2.1, 0, bt112.2.2.2.2.2.2⟩ : S28), (⟨bt112.1, bt112.2.1, bt112.2.2.1, bt112.2.2.2.1, bt112.2.2.2.2.1, bt112.2.2.2.2.2.1, bt112.2.2.2.2.2.2⟩ : S28)] : List (S28))) 7).bind fun bt128 => (if (!(bt128.1 == 7) || (!(bt128.2.1 == 1) || (!(bt128.2.2.1 == 90) || (!(bt128.2.2.2.1 == 30) || (!(bt128.2.2.2.2.1 == 1) || (!(bt128.2.2.2.2.2 == 2))))))) = true then (parolelaw32_examples0.j0 k true) else ((field_Gather.f k y101 (([(⟨bt104.1, bt104.2.1, bt104.2.2.1, bt104.2.2.2.1, bt104.2.2.2.2.1, bt104.2.2.2.2.2.1, bt104.2.2.2.2.2.2⟩ : S28)] : List (S28))) 8).bind fun bt137 => (if (!(bt137.1 == 8) || (!(bt137.2.1 == 0) || (!(bt137.2.2.1 == 0) || (!(bt137.2.2.2.1 == 0) || (!(bt137.2.2.2.2.1 == 0) || (!(bt137.2.2.2.2.2 == 0))))))) = true then (parolelaw32_examples0.j0 k true) else ((field_Tag.f k 99 bt104.1 bt104.2.1 bt104.2.2.1 bt104.2.2.2.1 bt104.2.2.2.2.1 bt104.2.2.2.2.2.1 bt104.2.2.2.2.2.2).bind fun t143 => (parolelaw32_examples0.j0 k (bt104.2.2.2.2.2.2 != t143))))))) else (parolelaw32_examples0.j0 k true))) else (parolelaw32_examples0.j0 k true))) else (parolelaw32_examples0.j0 k true)))))) = some r := h
 clear h
 obtain ⟨y101, hy101⟩ : ∃ y_ : List Int, y_ = (([99] : List Int)) := ⟨_, rfl⟩
 replace H : ((field_Sign.f k 99 0 1 7 5 5 0 0).bind fun bt104 => ((field_Sign.f k 99 0 4 7 90 30 1 0).bind fun bt112 => ((field_Right.f k y101 bt104.1 bt104.2.1 bt104.2.2.1 bt104.2.2.2.1 bt104.2.2.2.2.1 bt104.2.2.2.2.2.1 bt104.2.2.2.2.2.2).bind fun t122 => (if t122 = 0 then ((field_Right.f k y101 bt112.1 bt112.2.1 bt112.2.2.1 bt112.2.2.2.1 bt112.2.2.2.2.1 0 bt112.2.2.2.2.2.2).bind fun t123 => (if t123 = 320 then ((field_Right.f k ([] : List Int) bt104.1 bt104.2.1 bt104.2.2.1 bt104.2.2.2.1 bt104.2.2.2.2.1 bt104.2.2.2.2.2.1 bt104.2.2.2.2.2.2).bind fun t124 => (if t124 = 320 then ((field_Gather.f k y101 (([(⟨bt112.1, bt112.2.1, bt112.2.2.1, bt112.2.2.2.1, bt112.2.2.2.2.1, bt112.2.2.2.2.2.1, bt112.2.2.2.2.2.2⟩ : S28), (⟨bt104.1, bt104.2.1, bt104.2.2.1, bt104.2.2.2.1, bt104.2.2.2.2.1, bt104.2.2.2.2.2.1, bt104.2.2.2.2.2.2⟩ : S28), (⟨bt112.1, bt112.2.1, bt112.2.2.1, bt112.2.2.2.1, bt112.2.2.2.2.1, 0, bt112.2.2.2.2.2.2⟩ : S28), (⟨bt112.1, bt112.2.1, bt112.2.2.1, bt112.2.2.2.1, bt112.2.2.2.2.1, bt112.2.2.2.2.2.1, bt112.2.2.2.2.2.2⟩ : S28)] : List (S28))) 7).bind fun bt128 => (if (!(bt128.1 == 7) || (!(bt128.2.1 == 1) || (!(bt128.2.2.1 == 90) || (!(bt128.2.2.2.1 == 30) || (!(bt128.2.2.2.2.1 == 1) || (!(bt128.2.2.2.2.2 == 2))))))) = true then (parolelaw32_examples0.j0 k true) else ((field_Gather.f k y101 (([(⟨bt104.1, bt104.2.1, bt104.2.2.1, bt104.2.2.2.1, bt104.2.2.2.2.1, bt104.2.2.2.2.2.1, bt104.2.2.2.2.2.2⟩ : S28)] : List (S28))) 8).bind fun bt137 => (if (!(bt137.1 == 8) || (!(bt137.2.1 == 0) || (!(bt137.2.2.1 == 0) || (!(bt137.2.2.2.1 == 0) || (!(bt137.2.2.2.2.1 == 0) || (!(bt137.2.2.2.2.2 == 0))))))) = true then (parolelaw32_examples0.j0 k true) else ((field_Tag.f k 99 bt104.1 bt104.2.1 bt104.2.2.1 bt104.2.2.2.1 bt104.2.2.2.2.1 bt104.2.2.2.2.2.1 bt104.2.2.2.2.2.2).bind fun t143 => (parolelaw32_examples0.j0 k (bt104.2.2.2.2.2.2 != t143))))))) else (parolelaw32_examples0.j0 k true))) else (parolelaw32_examples0.j0 k true))) else (parolelaw32_examples0.j0 k true))))) = some r := by first | (rw [hy101]; with_reducible exact H) | (have H2_ := (Option.bind_some _ _).symm.trans H; rw [hy101]; with_reducible exact H2_) | (have H2_ := (Option.bind_some _ _).symm.trans H; with_reducible exact H2_) | with_reducible exact H | (rw [hy101]; exact H) | exact H
 have Ny101 := aM hy101; clear hy101; replace H := Option.bind_eq_some_iff.mp H
 obtain ⟨⟨t104, t105, t106, t107, t108, t109, t110⟩, A10, H⟩ := H
 replace H : ((field_Sign.f k 99 0 4 7 90 30 1 0).bind fun bt112 => ((field_Right.f k y101 t104 t105 t106 t107 t108 t109 t110).bind fun t122 => (if t122 = 0 then ((field_Right.f k y101 bt112.1 bt112.2.1 bt112.2.2.1 bt112.2.2.2.1 bt112.2.2.2.2.1 0 bt112.2.2.2.2.2.2).bind fun t123 => (if t123 = 320 then ((field_Right.f k ([] : List Int) t104 t105 t106 t107 t108 t109 t110).bind fun t124 => (if t124 = 320 then ((field_Gather.f k y101 (([(⟨bt112.1, bt112.2.1, bt112.2.2.1, bt112.2.2.2.1, bt112.2.2.2.2.1, bt112.2.2.2.2.2.1, bt112.2.2.2.2.2.2⟩ : S28), (⟨t104, t105, t106, t107, t108, t109, t110⟩ : S28), (⟨bt112.1, bt112.2.1, bt112.2.2.1, bt112.2.2.2.1, bt112.2.2.2.2.1, 0, bt112.2.2.2.2.2.2⟩ : S28), (⟨bt112.1, bt112.2.1, bt112.2.2.1, bt112.2.2.2.1, bt112.2.2.2.2.1, bt112.2.2.2.2.2.1, bt112.2.2.2.2.2.2⟩ : S28)] : List (S28))) 7).bind fun bt128 => (if (!(bt128.1 == 7) || (!(bt128.2.1 == 1) || (!(bt128.2.2.1 == 90) || (!(bt128.2.2.2.1 == 30) || (!(bt128.2.2.2.2.1 == 1) || (!(bt128.2.2.2.2.2 == 2))))))) = true then (parolelaw32_examples0.j0 k true) else ((field_Gather.f k y101 (([(⟨t104, t105, t106, t107, t108, t109, t110⟩ : S28)] : List (S28))) 8).bind fun bt137 => (if (!(bt137.1 == 8) || (!(bt137.2.1 == 0) || (!(bt137.2.2.1 == 0) || (!(bt137.2.2.2.1 == 0) || (!(bt137.2.2.2.2.1 == 0) || (!(bt137.2.2.2.2.2 == 0))))))) = true then (parolelaw32_examples0.j0 k true) else ((field_Tag.f k 99 t104 t105 t106 t107 t108 t109 t110).bind fun t143 => (parolelaw32_examples0.j0 k (t110 != t143))))))) else (parolelaw32_examples0.j0 k true))) else (parolelaw32_examples0.j0 k true))) else (parolelaw32_examples0.j0 k true)))) = some r := H
 have A1 := aM A10; clear A10; replace H := Option.bind_eq_some_iff.mp H
 obtain ⟨⟨t112, t113, t114, t115, t116, t117, t118⟩, A20, H⟩ := H
 replace H : ((field_Right.f k y101 t104 t105 t106 t107 t108 t109 t110).bind fun t122 => (if t122 = 0 then ((field_Right.f k y101 t112 t113 t114 t115 t116 0 t118).bind fun t123 => (if t123 = 320 then ((field_Right.f k ([] : List Int) t104 t105 t106 t107 t108 t109 t110).bind fun t124 => (if t124 = 320 then ((field_Gather.f k y101 (([(⟨t112, t113, t114, t115, t116, t117, t118⟩ : S28), (⟨t104, t105, t106, t107, t108, t109, t110⟩ : S28), (⟨t112, t113, t114, t115, t116, 0, t118⟩ : S28), (⟨t112, t113, t114, t115, t116, t117, t118⟩ : S28)] : List (S28))) 7).bind fun bt128 => (if (!(bt128.1 == 7) || (!(bt128.2.1 == 1) || (!(bt128.2.2.1 == 90) || (!(bt128.2.2.2.1 == 30) || (!(bt128.2.2.2.2.1 == 1) || (!(bt128.2.2.2.2.2 == 2))))))) = true then (parolelaw32_examples0.j0 k true) else ((field_Gather.f k y101 (([(⟨t104, t105, t106, t107, t108, t109, t110⟩ : S28)] : List (S28))) 8).bind fun bt137 => (if (!(bt137.1 == 8) || (!(bt137.2.1 == 0) || (!(bt137.2.2.1 == 0) || (!(bt137.2.2.2.1 == 0) || (!(bt137.2.2.2.2.1 == 0) || (!(bt137.2.2.2.2.2 == 0))))))) = true then (parolelaw32_examples0.j0 k true) else ((field_Tag.f k 99 t104 t105 t106 t107 t108 t109 t110).bind fun t143 => (parolelaw32_examples0.j0 k (t110 != t143))))))) else (parolelaw32_examples0.j0 k true))) else (parolelaw32_examples0.j0 k true))) else (parolelaw32_examples0.j0 k true))) = some r := H
 have A2 := aM A20; clear A20; have HC3 := aM H; clear H
 go_enter Try.func10, Try.ntmps10
 go_upto_region 7 with (first | ((with_reducible refine gate_dst (N := 9) rfl ?_); (try (refine gate_guard (by rfl) ?_; dsimp only)); refine Kd.R_lit (Kd.int .u64) _ 26 ?hg (N := 9) ?hd (xs := ([99] : List Int)) (inner := [.int .u64 99]) (ok := fun _ => True) (okp := fun _ => True) ?hr ?hp (fun _ hk => hk) trivial (Below.refl _ _) (Nat.le_refl _) (by simp) ?_; (case hd => rfl); (case hg => rfl); (case hr => first | (go_simp; done) | (go_simp; rfl)); (case hp => exact (Reps.one (show Kd.M (Kd.int .u64) _ _ _ 99 [.int .u64 99] from rfl) (Reps.none _ _))); intro v102 w4 ho5 hb hg_ hnew_; clear hg_ hnew_; (first | rw [← Ny101.out] at ho5 | (simp only [Int.reduceToNat] at ho5; rw [← Ny101.out] at ho5)); have HO103 := rL (n := 0) ho5 HB; replace HB := sB HB hb; clear hb ho5) | ((with_reducible refine gate_callee (f := 12) rfl ?_); refine gL (some 11) Try.func12 #[.int .u64 99, .agg #[.int .i64 0, .int .i64 1, .int .i64 7, .int .i64 5, .int .i64 5, .int .i64 0, .int .u64 0]] ?_; (with_reducible refine (field_Sign.calls k 99 0 1 7 5 5 0 0 t104 t105 t106 t107 t108 t109 t110 _ A1.out).mono ?_); rintro e w6 ⟨rfl, hb⟩; refine ⟨_, rfl, ?_⟩; replace HO103 := rB HO103 hb; replace HB := sB HB hb; (try clear hb)) | ((with_reducible refine gate_dst (N := 2) rfl ?_); (try (refine gate_guard (by rfl) ?_; dsimp only)); refine bE (N := 2) (cs := #[.int .i64 0, .int .i64 0, .int .i64 0, .int .i64 0, .int .i64 0, .int .i64 0, .int .u64 0]) (t := 28) ?_; intro gb111 hg w7 hbox hb; have BK111 := aM (hbox); have GW111 := gE hg HB; have GE111 := gE hg HB; replace HO103 := rB HO103 hb; replace HB := sB HB hb; clear hb hbox hg; obtain ⟨hcz8_0, hcz8_1, hcz8_2, hcz8_3, hcz8_4, hcz8_5, hcz8_6, hfz8_0, hfz8_1, hfz8_2, hfz8_3, hfz8_4, hfz8_5, hfz8_6⟩ := cZ7 BK111) | ((with_reducible refine gate_callee (f := 12) rfl ?_); refine gL (some 13) Try.func12 #[.int .u64 99, .agg #[.int .i64 0, .int .i64 4, .int .i64 7, .int .i64 90, .int .i64 30, .int .i64 1, .int .u64 0]] ?_; (with_reducible refine (field_Sign.calls k 99 0 4 7 90 30 1 0 t112 t113 t114 t115 t116 t117 t118 _ A2.out).mono ?_); rintro e w9 ⟨rfl, hb⟩; refine ⟨_, rfl, ?_⟩; replace HO103 := aM (Kd.R_below (rD ⟨(Kd.R_mono (Kd.R_far (p := ⟨gb111, 6, none⟩) (Kd.R_far (p := ⟨gb111, 5, none⟩) (Kd.R_far (p := ⟨gb111, 4, none⟩) (Kd.R_far (p := ⟨gb111, 3, none⟩) (Kd.R_far (p := ⟨gb111, 2, none⟩) (Kd.R_far (p := ⟨gb111, 1, none⟩) (Kd.R_far (p := ⟨gb111, 0, none⟩) (Kd.R_types HO103.out BK111.out (by decide)) (fun _ hk => hk.2) (.int .i64 t104)) (fun _ hk => hk.2) (.int .i64 t105)) (fun _ hk => hk.2) (.int .i64 t106)) (fun _ hk => hk.2) (.int .i64 t107)) (fun _ hk => hk.2) (.int .i64 t108)) (fun _ hk => hk.2) (.int .i64 t109)) (fun _ hk => hk.2) (.int .u64 t110)) (fun _ h_ => h_.1))⟩) hb); replace HB := sB HB hb; replace BK111 := aM (blk_below (g := gb111) (o := .cells #[.int .i64 t104, .int .i64 t105, .int .i64 t106, .int .i64 t107, .int .i64 t108, .int .i64 t109, .int .u64 t110] 28 (0, 0)) (by refine bM ?_; refine blk_put (cs := #[.int .i64 t104, .int .i64 t105, .int .i64 t106, .int .i64 t107, .int .i64 t108, .int .i64 t109, .int .u64 0]) ?_ 6 _ rfl; refine bM ?_; refine blk_put (cs := #[.int .i64 t104, .int .i64 t105, .int .i64 t106, .int .i64 t107, .int .i64 t108, .int .i64 0, .int .u64 0]) ?_ 5 _ rfl; refine bM ?_; refine blk_put (cs := #[.int .i64 t104, .int .i64 t105, .int .i64 t106, .int .i64 t107, .int .i64 0, .int .i64 0, .int .u64 0]) ?_ 4 _ rfl; refine bM ?_; refine blk_put (cs := #[.int .i64 t104, .int .i64 t105, .int .i64 t106, .int .i64 0, .int .i64 0, .int .i64 0, .int .u64 0]) ?_ 3 _ rfl; refine bM ?_; refine blk_put (cs := #[.int .i64 t104, .int .i64 t105, .int .i64 0, .int .i64 0, .int .i64 0, .int .i64 0, .int .u64 0]) ?_ 2 _ rfl; refine bM ?_; refine blk_put (cs := #[.int .i64 t104, .int .i64 0, .int .i64 0, .int .i64 0, .int .i64 0, .int .i64 0, .int .u64 0]) ?_ 1 _ rfl; refine bM ?_; refine blk_put (cs := #[.int .i64 0, .int .i64 0, .int .i64 0, .int .i64 0, .int .i64 0, .int .i64 0, .int .u64 0]) ?_ 0 _ rfl; exact bD BK111) hb); (try clear hb)) | ((with_reducible refine gate_dst (N := 3) rfl ?_); (try (refine gate_guard (by rfl) ?_; dsimp only)); refine bE (N := 3) (cs := #[.int .i64 0, .int .i64 0, .int .i64 0, .int .i64 0, .int .i64 0, .int .i64 0, .int .u64 0]) (t := 28) ?_; intro gb119 hg w10 hbox hb; have BK119 := aM (hbox); have GW119 := gE hg HB; have GE119 := gE hg HB; have NB111_119 := nL hg BK111; replace HO103 := rB HO103 hb; replace BK111 := bB BK111 hb; replace HB := sB HB hb; clear hb hbox hg; have hnb11 := NB111_119.out.symm; have hnc11 := NB111_119.out; obtain ⟨hcz12_0, hcz12_1, hcz12_2, hcz12_3, hcz12_4, hcz12_5, hcz12_6, hfz12_0, hfz12_1, hfz12_2, hfz12_3, hfz12_4, hfz12_5, hfz12_6⟩ := cZ7 BK119) | ((with_reducible refine gate_dst (N := 4) rfl ?_); (try (refine gate_guard (by rfl) ?_; dsimp only)); refine bE (N := 4) (cs := #[.int .i64 0, .int .i64 0, .int .i64 0, .int .i64 0, .int .i64 0, .int .i64 0, .int .u64 0]) (t := 28) ?_; intro gb120 hg w13 hbox hb; have BK120 := aM (hbox); have GW120 := gE hg HB; have GE120 := gE hg HB; have NB111_120 := aM ((by rw [hg]; exact Nat.ne_of_lt (blk_lt (g := gb111) (o := .cells #[.int .i64 t104, .int .i64 t105, .int .i64 t106, .int .i64 t107, .int .i64 t108, .int .i64 t109, .int .u64 t110] 28 (0, 0)) (bF BK111)) : gb111 ≠ gb120)); have NB120_111 := aM ((by rw [hg]; exact Nat.ne_of_gt (blk_lt (g := gb111) (o := .cells #[.int .i64 t104, .int .i64 t105, .int .i64 t106, .int .i64 t107, .int .i64 t108, .int .i64 t109, .int .u64 t110] 28 (0, 0)) (bF BK111)) : gb120 ≠ gb111)); have NB119_120 := aM ((by rw [hg]; exact Nat.ne_of_lt (blk_lt (g := gb119) (o := .cells #[.int .i64 t112, .int .i64 t113, .int .i64 t114, .int .i64 t115, .int .i64 t116, .int .i64 t117, .int .u64 t118] 28 (0, 0)) (by refine bM ?_; refine blk_put (cs := #[.int .i64 t112, .int .i64 t113, .int .i64 t114, .int .i64 t115, .int .i64 t116, .int .i64 t117, .int .u64 0]) ?_ 6 _ rfl; refine bM ?_; refine blk_put (cs := #[.int .i64 t112, .int .i64 t113, .int .i64 t114, .int .i64 t115, .int .i64 t116, .int .i64 0, .int .u64 0]) ?_ 5 _ rfl; refine bM ?_; refine blk_put (cs := #[.int .i64 t112, .int .i64 t113, .int .i64 t114, .int .i64 t115, .int .i64 0, .int .i64 0, .int .u64 0]) ?_ 4 _ rfl; refine bM ?_; refine blk_put (cs := #[.int .i64 t112, .int .i64 t113, .int .i64 t114, .int .i64 0, .int .i64 0, .int .i64 0, .int .u64 0]) ?_ 3 _ rfl; refine bM ?_; refine blk_put (cs := #[.int .i64 t112, .int .i64 t113, .int .i64 0, .int .i64 0, .int .i64 0, .int .i64 0, .int .u64 0]) ?_ 2 _ rfl; refine bM ?_; refine blk_put (cs := #[.int .i64 t112, .int .i64 0, .int .i64 0, .int .i64 0, .int .i64 0, .int .i64 0, .int .u64 0]) ?_ 1 _ rfl; refine bM ?_; refine blk_put (cs := #[.int .i64 0, .int .i64 0, .int .i64 0, .int .i64 0, .int .i64 0, .int .i64 0, .int .u64 0]) ?_ 0 _ rfl; exact bD BK119)) : gb119 ≠ gb120)); have NB120_119 := aM ((by rw [hg]; exact Nat.ne_of_gt (blk_lt (g := gb119) (o := .cells #[.int .i64 t112, .int .i64 t113, .int .i64 t114, .int .i64 t115, .int .i64 t116, .int .i64 t117, .int .u64 t118] 28 (0, 0)) (by refine bM ?_; refine blk_put (cs := #[.int .i64 t112, .int .i64 t113, .int .i64 t114, .int .i64 t115, .int .i64 t116, .int .i64 t117, .int .u64 0]) ?_ 6 _ rfl; refine bM ?_; refine blk_put (cs := #[.int .i64 t112, .int .i64 t113, .int .i64 t114, .int .i64 t115, .int .i64 t116, .int .i64 0, .int .u64 0]) ?_ 5 _ rfl; refine bM ?_; refine blk_put (cs := #[.int .i64 t112, .int .i64 t113, .int .i64 t114, .int .i64 t115, .int .i64 0, .int .i64 0, .int .u64 0]) ?_ 4 _ rfl; refine bM ?_; refine blk_put (cs := #[.int .i64 t112, .int .i64 t113, .int .i64 t114, .int .i64 0, .int .i64 0, .int .i64 0, .int .u64 0]) ?_ 3 _ rfl; refine bM ?_; refine blk_put (cs := #[.int .i64 t112, .int .i64 t113, .int .i64 0, .int .i64 0, .int .i64 0, .int .i64 0, .int .u64 0]) ?_ 2 _ rfl; refine bM ?_; refine blk_put (cs := #[.int .i64 t112, .int .i64 0, .int .i64 0, .int .i64 0, .int .i64 0, .int .i64 0, .int .u64 0]) ?_ 1 _ rfl; refine bM ?_; refine blk_put (cs := #[.int .i64 0, .int .i64 0, .int .i64 0, .int .i64 0, .int .i64 0, .int .i64 0, .int .u64 0]) ?_ 0 _ rfl; exact bD BK119)) : gb120 ≠ gb119)); replace HO103 := aM (Kd.R_below (rD ⟨(Kd.R_mono (Kd.R_far (p := ⟨gb119, 6, none⟩) (Kd.R_far (p := ⟨gb119, 5, none⟩) (Kd.R_far (p := ⟨gb119, 4, none⟩) (Kd.R_far (p := ⟨gb119, 3, none⟩) (Kd.R_far (p := ⟨gb119, 2, none⟩) (Kd.R_far (p := ⟨gb119, 1, none⟩) (Kd.R_far (p := ⟨gb119, 0, none⟩) (Kd.R_types HO103.out BK119.out (by decide)) (fun _ hk => hk.2) (.int .i64 t112)) (fun _ hk => hk.2) (.int .i64 t113)) (fun _ hk => hk.2) (.int .i64 t114)) (fun _ hk => hk.2) (.int .i64 t115)) (fun _ hk => hk.2) (.int .i64 t116)) (fun _ hk => hk.2) (.int .i64 t117)) (fun _ hk => hk.2) (.int .u64 t118)) (fun _ h_ => h_.1))⟩) hb); replace BK111 := aM (blk_below (g := gb111) (o := .cells #[.int .i64 t104, .int .i64 t105, .int .i64 t106, .int .i64 t107, .int .i64 t108, .int .i64 t109, .int .u64 t110] 28 (0, 0)) (bF BK111) hb); replace HB := sB HB hb; replace BK119 := aM (blk_below (g := gb119) (o := .cells #[.int .i64 t112, .int .i64 t113, .int .i64 t114, .int .i64 t115, .int .i64 t116, .int .i64 t117, .int .u64 t118] 28 (0, 0)) (by refine bM ?_; refine blk_put (cs := #[.int .i64 t112, .int .i64 t113, .int .i64 t114, .int .i64 t115, .int .i64 t116, .int .i64 t117, .int .u64 0]) ?_ 6 _ rfl; refine bM ?_; refine blk_put (cs := #[.int .i64 t112, .int .i64 t113, .int .i64 t114, .int .i64 t115, .int .i64 t116, .int .i64 0, .int .u64 0]) ?_ 5 _ rfl; refine bM ?_; refine blk_put (cs := #[.int .i64 t112, .int .i64 t113, .int .i64 t114, .int .i64 t115, .int .i64 0, .int .i64 0, .int .u64 0]) ?_ 4 _ rfl; refine bM ?_; refine blk_put (cs := #[.int .i64 t112, .int .i64 t113, .int .i64 t114, .int .i64 0, .int .i64 0, .int .i64 0, .int .u64 0]) ?_ 3 _ rfl; refine bM ?_; refine blk_put (cs := #[.int .i64 t112, .int .i64 t113, .int .i64 0, .int .i64 0, .int .i64 0, .int .i64 0, .int .u64 0]) ?_ 2 _ rfl; refine bM ?_; refine blk_put (cs := #[.int .i64 t112, .int .i64 0, .int .i64 0, .int .i64 0, .int .i64 0, .int .i64 0, .int .u64 0]) ?_ 1 _ rfl; refine bM ?_; refine blk_put (cs := #[.int .i64 0, .int .i64 0, .int .i64 0, .int .i64 0, .int .i64 0, .int .i64 0, .int .u64 0]) ?_ 0 _ rfl; exact bD BK119) hb); clear hb hbox hg; have hnb14 := NB111_120.out.symm; have hnc14 := NB111_120.out; have hnb15 := NB119_120.out.symm; have hnc15 := NB119_120.out; obtain ⟨hcz16_0, hcz16_1, hcz16_2, hcz16_3, hcz16_4, hcz16_5, hcz16_6, hfz16_0, hfz16_1, hfz16_2, hfz16_3, hfz16_4, hfz16_5, hfz16_6⟩ := cZ7 BK120) | ((with_reducible refine gate_dst (N := 5) rfl ?_); (try (refine gate_guard (by rfl) ?_; dsimp only)); refine bE (N := 5) (cs := #[.int .i64 0, .int .i64 0, .int .i64 0, .int .i64 0, .int .i64 0, .int .i64 0]) (t := 40) ?_; intro gb121 hg w17 hbox hb; have BK121 := aM (hbox); have GW121 := gE hg HB; have GE121 := gE hg HB; have NB111_121 := aM ((by rw [hg]; exact Nat.ne_of_lt (blk_lt (g := gb111) (o := .cells #[.int .i64 t104, .int .i64 t105, .int .i64 t106, .int .i64 t107, .int .i64 t108, .int .i64 t109, .int .u64 t110] 28 (0, 0)) (bF BK111)) : gb111 ≠ gb121)); have NB121_111 := aM ((by rw [hg]; exact Nat.ne_of_gt (blk_lt (g := gb111) (o := .cells #[.int .i64 t104, .int .i64 t105, .int .i64 t106, .int .i64 t107, .int .i64 t108, .int .i64 t109, .int .u64 t110] 28 (0, 0)) (bF BK111)) : gb121 ≠ gb111)); have NB119_121 := aM ((by rw [hg]; exact Nat.ne_of_lt (blk_lt (g := gb119) (o := .cells #[.int .i64 t112, .int .i64 t113, .int .i64 t114, .int .i64 t115, .int .i64 t116, .int .i64 t117, .int .u64 t118] 28 (0, 0)) (bF BK119)) : gb119 ≠ gb121)); have NB121_119 := aM ((by rw [hg]; exact Nat.ne_of_gt (blk_lt (g := gb119) (o := .cells #[.int .i64 t112, .int .i64 t113, .int .i64 t114, .int .i64 t115, .int .i64 t116, .int .i64 t117, .int .u64 t118] 28 (0, 0)) (bF BK119)) : gb121 ≠ gb119)); have NB120_121 := aM ((by rw [hg]; exact Nat.ne_of_lt (blk_lt (g := gb120) (o := .cells #[.int .i64 t112, .int .i64 t113, .int .i64 t114, .int .i64 t115, .int .i64 t116, .int .i64 0, .int .u64 t118] 28 (0, 0)) (by refine bM ?_; refine blk_put (cs := #[.int .i64 t112, .int .i64 t113, .int .i64 t114, .int .i64 t115, .int .i64 t116, .int .i64 t117, .int .u64 t118]) ?_ 5 _ rfl; refine bM ?_; refine blk_put (cs := #[.int .i64 t112, .int .i64 t113, .int .i64 t114, .int .i64 t115, .int .i64 t116, .int .i64 t117, .int .u64 0]) ?_ 6 _ rfl; refine bM ?_; refine blk_put (cs := #[.int .i64 t112, .int .i64 t113, .int .i64 t114, .int .i64 t115, .int .i64 t116, .int .i64 0, .int .u64 0]) ?_ 5 _ rfl; refine bM ?_; refine blk_put (cs := #[.int .i64 t112, .int .i64 t113, .int .i64 t114, .int .i64 t115, .int .i64 0, .int .i64 0, .int .u64 0]) ?_ 4 _ rfl; refine bM ?_; refine blk_put (cs := #[.int .i64 t112, .int .i64 t113, .int .i64 t114, .int .i64 0, .int .i64 0, .int .i64 0, .int .u64 0]) ?_ 3 _ rfl; refine bM ?_; refine blk_put (cs := #[.int .i64 t112, .int .i64 t113, .int .i64 0, .int .i64 0, .int .i64 0, .int .i64 0, .int .u64 0]) ?_ 2 _ rfl; refine bM ?_; refine blk_put (cs := #[.int .i64 t112, .int .i64 0, .int .i64 0, .int .i64 0, .int .i64 0, .int .i64 0, .int .u64 0]) ?_ 1 _ rfl; refine bM ?_; refine blk_put (cs := #[.int .i64 0, .int .i64 0, .int .i64 0, .int .i64 0, .int .i64 0, .int .i64 0, .int .u64 0]) ?_ 0 _ rfl; exact bD BK120)) : gb120 ≠ gb121)); have NB121_120 := aM ((by rw [hg]; exact Nat.ne_of_gt (blk_lt (g := gb120) (o := .cells #[.int .i64 t112, .int .i64 t113, .int .i64 t114, .int .i64 t115, .int .i64 t116, .int .i64 0, .int .u64 t118] 28 (0, 0)) (by refine bM ?_; refine blk_put (cs := #[.int .i64 t112, .int .i64 t113, .int .i64 t114, .int .i64 t115, .int .i64 t116, .int .i64 t117, .int .u64 t118]) ?_ 5 _ rfl; refine bM ?_; refine blk_put (cs := #[.int .i64 t112, .int .i64 t113, .int .i64 t114, .int .i64 t115, .int .i64 t116, .int .i64 t117, .int .u64 0]) ?_ 6 _ rfl; refine bM ?_; refine blk_put (cs := #[.int .i64 t112, .int .i64 t113, .int .i64 t114, .int .i64 t115, .int .i64 t116, .int .i64 0, .int .u64 0]) ?_ 5 _ rfl; refine bM ?_; refine blk_put (cs := #[.int .i64 t112, .int .i64 t113, .int .i64 t114, .int .i64 t115, .int .i64 0, .int .i64 0, .int .u64 0]) ?_ 4 _ rfl; refine bM ?_; refine blk_put (cs := #[.int .i64 t112, .int .i64 t113, .int .i64 t114, .int .i64 0, .int .i64 0, .int .i64 0, .int .u64 0]) ?_ 3 _ rfl; refine bM ?_; refine blk_put (cs := #[.int .i64 t112, .int .i64 t113, .int .i64 0, .int .i64 0, .int .i64 0, .int .i64 0, .int .u64 0]) ?_ 2 _ rfl; refine bM ?_; refine blk_put (cs := #[.int .i64 t112, .int .i64 0, .int .i64 0, .int .i64 0, .int .i64 0, .int .i64 0, .int .u64 0]) ?_ 1 _ rfl; refine bM ?_; refine blk_put (cs := #[.int .i64 0, .int .i64 0, .int .i64 0, .int .i64 0, .int .i64 0, .int .i64 0, .int .u64 0]) ?_ 0 _ rfl; exact bD BK120)) : gb121 ≠ gb120)); replace HO103 := aM (Kd.R_below (rD ⟨(Kd.R_mono (Kd.R_far (p := ⟨gb120, 5, none⟩) (Kd.R_far (p := ⟨gb120, 6, none⟩) (Kd.R_far (p := ⟨gb120, 5, none⟩) (Kd.R_far (p := ⟨gb120, 4, none⟩) (Kd.R_far (p := ⟨gb120, 3, none⟩) (Kd.R_far (p := ⟨gb120, 2, none⟩) (Kd.R_far (p := ⟨gb120, 1, none⟩) (Kd.R_far (p := ⟨gb120, 0, none⟩) (Kd.R_types HO103.out BK120.out (by decide)) (fun _ hk => hk.2) (.int .i64 t112)) (fun _ hk => hk.2) (.int .i64 t113)) (fun _ hk => hk.2) (.int .i64 t114)) (fun _ hk => hk.2) (.int .i64 t115)) (fun _ hk => hk.2) (.int .i64 t116)) (fun _ hk => hk.2) (.int .i64 t117)) (fun _ hk => hk.2) (.int .u64 t118)) (fun _ hk => hk.2) (.int .i64 0)) (fun _ h_ => h_.1))⟩) hb); replace BK111 := aM (blk_below (g := gb111) (o := .cells #[.int .i64 t104, .int .i64 t105, .int .i64 t106, .int .i64 t107, .int .i64 t108, .int .i64 t109, .int .u64 t110] 28 (0, 0)) (bF BK111) hb); replace BK119 := aM (blk_below (g := gb119) (o := .cells #[.int .i64 t112, .int .i64 t113, .int .i64 t114, .int .i64 t115, .int .i64 t116, .int .i64 t117, .int .u64 t118] 28 (0, 0)) (bF BK119) hb); replace HB := sB HB hb; replace BK120 := aM (blk_below (g := gb120) (o := .cells #[.int .i64 t112, .int .i64 t113, .int .i64 t114, .int .i64 t115, .int .i64 t116, .int .i64 0, .int .u64 t118] 28 (0, 0)) (by refine bM ?_; refine blk_put (cs := #[.int .i64 t112, .int .i64 t113, .int .i64 t114, .int .i64 t115, .int .i64 t116, .int .i64 t117, .int .u64 t118]) ?_ 5 _ rfl; refine bM ?_; refine blk_put (cs := #[.int .i64 t112, .int .i64 t113, .int .i64 t114, .int .i64 t115, .int .i64 t116, .int .i64 t117, .int .u64 0]) ?_ 6 _ rfl; refine bM ?_; refine blk_put (cs := #[.int .i64 t112, .int .i64 t113, .int .i64 t114, .int .i64 t115, .int .i64 t116, .int .i64 0, .int .u64 0]) ?_ 5 _ rfl; refine bM ?_; refine blk_put (cs := #[.int .i64 t112, .int .i64 t113, .int .i64 t114, .int .i64 t115, .int .i64 0, .int .i64 0, .int .u64 0]) ?_ 4 _ rfl; refine bM ?_; refine blk_put (cs := #[.int .i64 t112, .int .i64 t113, .int .i64 t114, .int .i64 0, .int .i64 0, .int .i64 0, .int .u64 0]) ?_ 3 _ rfl; refine bM ?_; refine blk_put (cs := #[.int .i64 t112, .int .i64 t113, .int .i64 0, .int .i64 0, .int .i64 0, .int .i64 0, .int .u64 0]) ?_ 2 _ rfl; refine bM ?_; refine blk_put (cs := #[.int .i64 t112, .int .i64 0, .int .i64 0, .int .i64 0, .int .i64 0, .int .i64 0, .int .u64 0]) ?_ 1 _ rfl; refine bM ?_; refine blk_put (cs := #[.int .i64 0, .int .i64 0, .int .i64 0, .int .i64 0, .int .i64 0, .int .i64 0, .int .u64 0]) ?_ 0 _ rfl; exact bD BK120) hb); clear hb hbox hg; have hnb18 := NB111_121.out.symm; have hnc18 := NB111_121.out; have hnb19 := NB119_121.out.symm; have hnc19 := NB119_121.out; have hnb20 := NB120_121.out.symm; have hnc20 := NB120_121.out; obtain ⟨hcz21_0, hcz21_1, hcz21_2, hcz21_3, hcz21_4, hcz21_5, hfz21_0, hfz21_1, hfz21_2, hfz21_3, hfz21_4, hfz21_5⟩ := cZ6 BK121))
 (try simp only [Act.put, List.setIfInBounds_toArray, List.set_cons_zero, List.set_cons_succ])
 go_cut [57] (fun v57 wc => ∃ (kq : Nat) (x57_2 : Bool), v57 = .bool x57_2 ∧ Aside0 (parolelaw32_examples0.j0 kq x57_2 = some r) ∧ Aside0 (kq ≤ k) ∧ Aside0 (wc.heap[gb111]? = some (.cells #[.int .i64 t104, .int .i64 t105, .int .i64 t106, .int .i64 t107, .int .i64 t108, .int .i64 t109, .int .u64 t110] 28 (0, 0))) ∧ Aside0 (wc.heap[gb119]? = some (.cells #[.int .i64 t112, .int .i64 t113, .int .i64 t114, .int .i64 t115, .int .i64 t116, .int .i64 t117, .int .u64 t118] 28 (0, 0))) ∧ Aside0 (wc.heap[gb120]? = some (.cells #[.int .i64 t112, .int .i64 t113, .int .i64 t114, .int .i64 t115, .int .i64 t116, .int .i64 0, .int .u64 t118] 28 (0, 0))) ∧ Aside0 (wc.heap[gb121]? = some (.cells #[.int .i64 7, .int .i64 1, .int .i64 90, .int .i64 30, .int .i64 1, .int .i64 2] 40 (0, 0))) ∧ Aside0 (Below w.heap.size w wc))
 case first =>
  have H := HC3.out; clear HC3; replace H := Option.bind_eq_some_iff.mp H
  obtain ⟨t122, A220, H⟩ := H
  replace H : (if t122 = 0 then ((field_Right.f k y101 t112 t113 t114 t115 t116 0 t118).bind fun t123 => (if t123 = 320 then ((field_Right.f k ([] : List Int) t104 t105 t106 t107 t108 t109 t110).bind fun t124 => (if t124 = 320 then ((field_Gather.f k y101 (([(⟨t112, t113, t114, t115, t116, t117, t118⟩ : S28), (⟨t104, t105, t106, t107, t108, t109, t110⟩ : S28), (⟨t112, t113, t114, t115, t116, 0, t118⟩ : S28), (⟨t112, t113, t114, t115, t116, t117, t118⟩ : S28)] : List (S28))) 7).bind fun bt128 => (if (!(bt128.1 == 7) || (!(bt128.2.1 == 1) || (!(bt128.2.2.1 == 90) || (!(bt128.2.2.2.1 == 30) || (!(bt128.2.2.2.2.1 == 1) || (!(bt128.2.2.2.2.2 == 2))))))) = true then (parolelaw32_examples0.j0 k true) else ((field_Gather.f k y101 (([(⟨t104, t105, t106, t107, t108, t109, t110⟩ : S28)] : List (S28))) 8).bind fun bt137 => (if (!(bt137.1 == 8) || (!(bt137.2.1 == 0) || (!(bt137.2.2.1 == 0) || (!(bt137.2.2.2.1 == 0) || (!(bt137.2.2.2.2.1 == 0) || (!(bt137.2.2.2.2.2 == 0))))))) = true then (parolelaw32_examples0.j0 k true) else ((field_Tag.f k 99 t104 t105 t106 t107 t108 t109 t110).bind fun t143 => (parolelaw32_examples0.j0 k (t110 != t143))))))) else (parolelaw32_examples0.j0 k true))) else (parolelaw32_examples0.j0 k true))) else (parolelaw32_examples0.j0 k true)) = some r := H
  have A22 := aM A220; clear A220
  by_cases c23 : t122 = 0
  ·rw [if_pos c23] at H
   have c23b0 : (t122 == 0) = true := beq_iff_eq.mpr c23
   have c23b1 : (t122 != 0) = false := bne_eq_false_iff_eq.mpr c23
   clear c23
   (first | rw [c23b0] | (simp only [i64_w, i32_w]; rw [c23b0]) | skip)
   replace H := Option.bind_eq_some_iff.mp H
   obtain ⟨t123, A240, H⟩ := H
   replace H : (if t123 = 320 then ((field_Right.f k ([] : List Int) t104 t105 t106 t107 t108 t109 t110).bind fun t124 => (if t124 = 320 then ((field_Gather.f k y101 (([(⟨t112, t113, t114, t115, t116, t117, t118⟩ : S28), (⟨t104, t105, t106, t107, t108, t109, t110⟩ : S28), (⟨t112, t113, t114, t115, t116, 0, t118⟩ : S28), (⟨t112, t113, t114, t115, t116, t117, t118⟩ : S28)] : List (S28))) 7).bind fun bt128 => (if (!(bt128.1 == 7) || (!(bt128.2.1 == 1) || (!(bt128.2.2.1 == 90) || (!(bt128.2.2.2.1 == 30) || (!(bt128.2.2.2.2.1 == 1) || (!(bt128.2.2.2.2.2 == 2))))))) = true then (parolelaw32_examples0.j0 k true) else ((field_Gather.f k y101 (([(⟨t104, t105, t106, t107, t108, t109, t110⟩ : S28)] : List (S28))) 8).bind fun bt137 => (if (!(bt137.1 == 8) || (!(bt137.2.1 == 0) || (!(bt137.2.2.1 == 0) || (!(bt137.2.2.2.1 == 0) || (!(bt137.2.2.2.2.1 == 0) || (!(bt137.2.2.2.2.2 == 0))))))) = true then (parolelaw32_examples0.j0 k true) else ((field_Tag.f k 99 t104 t105 t106 t107 t108 t109 t110).bind fun t143 => (parolelaw32_examples0.j0 k (t110 != t143))))))) else (parolelaw32_examples0.j0 k true))) else (parolelaw32_examples0.j0 k true)) = some r := H
   have A24 := aM A240; clear A240
   by_cases c25 : t123 = 320
   ·rw [if_pos c25] at H
    have c25b0 : (t123 == 320) = true := beq_iff_eq.mpr c25
    have c25b1 : (t123 != 320) = false := bne_eq_false_iff_eq.mpr c25
    clear c25; replace H := Option.bind_eq_some_iff.mp H
    obtain ⟨t124, A260, H⟩ := H
    replace H : (if t124 = 320 then ((field_Gather.f k y101 (([(⟨t112, t113, t114, t115, t116, t117, t118⟩ : S28), (⟨t104, t105, t106, t107, t108, t109, t110⟩ : S28), (⟨t112, t113, t114, t115, t116, 0, t118⟩ : S28), (⟨t112, t113, t114, t115, t116, t117, t118⟩ : S28)] : List (S28))) 7).bind fun bt128 => (if (!(bt128.1 == 7) || (!(bt128.2.1 == 1) || (!(bt128.2.2.1 == 90) || (!(bt128.2.2.2.1 == 30) || (!(bt128.2.2.2.2.1 == 1) || (!(bt128.2.2.2.2.2 == 2))))))) = true then (parolelaw32_examples0.j0 k true) else ((field_Gather.f k y101 (([(⟨t104, t105, t106, t107, t108, t109, t110⟩ : S28)] : List (S28))) 8).bind fun bt137 => (if (!(bt137.1 == 8) || (!(bt137.2.1 == 0) || (!(bt137.2.2.1 == 0) || (!(bt137.2.2.2.1 == 0) || (!(bt137.2.2.2.2.1 == 0) || (!(bt137.2.2.2.2.2 == 0))))))) = true then (parolelaw32_examples0.j0 k true) else ((field_Tag.f k 99 t104 t105 t106 t107 t108 t109 t110).bind fun t143 => (parolelaw32_examples0.j0 k (t110 != t143))))))) else (parolelaw32_examples0.j0 k true)) = some r := H
    have A26 := aM A260; clear A260
    by_cases c27 : t124 = 320
    ·rw [if_pos c27] at H
     have c27b0 : (t124 == 320) = true := beq_iff_eq.mpr c27
     have c27b1 : (t124 != 320) = false := bne_eq_false_iff_eq.mpr c27
     clear c27
     obtain ⟨y125, hy125⟩ : ∃ y_ : List (S28), y_ = (([(⟨t112, t113, t114, t115, t116, t117, t118⟩ : S28), (⟨t104, t105, t106, t107, t108, t109, t110⟩ : S28), (⟨t112, t113, t114, t115, t116, 0, t118⟩ : S28), (⟨t112, t113, t114, t115, t116, t117, t118⟩ : S28)] : List (S28))) := ⟨_, rfl⟩
     replace H : ((field_Gather.f k y101 y125 7).bind fun bt128 => (if (!(bt128.1 == 7) || (!(bt128.2.1 == 1) || (!(bt128.2.2.1 == 90) || (!(bt128.2.2.2.1 == 30) || (!(bt128.2.2.2.2.1 == 1) || (!(bt128.2.2.2.2.2 == 2))))))) = true then (parolelaw32_examples0.j0 k true) else ((field_Gather.f k y101 (([(⟨t104, t105, t106, t107, t108, t109, t110⟩ : S28)] : List (S28))) 8).bind fun bt137 => (if (!(bt137.1 == 8) || (!(bt137.2.1 == 0) || (!(bt137.2.2.1 == 0) || (!(bt137.2.2.2.1 == 0) || (!(bt137.2.2.2.2.1 == 0) || (!(bt137.2.2.2.2.2 == 0))))))) = true then (parolelaw32_examples0.j0 k true) else ((field_Tag.f k 99 t104 t105 t106 t107 t108 t109 t110).bind fun t143 => (parolelaw32_examples0.j0 k (t110 != t143))))))) = some r := by first | (rw [hy125]; with_reducible exact H) | (have H2_ := (Option.bind_some _ _).symm.trans H; rw [hy125]; with_reducible exact H2_) | (have H2_ := (Option.bind_some _ _).symm.trans H; with_reducible exact H2_) | with_reducible exact H | (rw [hy125]; exact H) | exact H
     have Ny125 := aM hy125; clear hy125; replace H := Option.bind_eq_some_iff.mp H
     obtain ⟨⟨t128, t129, t130, t131, t132, t133⟩, A280, H⟩ := H
     replace H : (if (!(t128 == 7) || (!(t129 == 1) || (!(t130 == 90) || (!(t131 == 30) || (!(t132 == 1) || (!(t133 == 2))))))) = true then (parolelaw32_examples0.j0 k true) else ((field_Gather.f k y101 (([(⟨t104, t105, t106, t107, t108, t109, t110⟩ : S28)] : List (S28))) 8).bind fun bt137 => (if (!(bt137.1 == 8) || (!(bt137.2.1 == 0) || (!(bt137.2.2.1 == 0) || (!(bt137.2.2.2.1 == 0) || (!(bt137.2.2.2.2.1 == 0) || (!(bt137.2.2.2.2.2 == 0))))))) = true then (parolelaw32_examples0.j0 k true) else ((field_Tag.f k 99 t104 t105 t106 t107 t108 t109 t110).bind fun t143 => (parolelaw32_examples0.j0 k (t110 != t143)))))) = some r := H
     have A28 := aM A280; clear A280
     by_cases c29 : (!(t128 == 7) || (!(t129 == 1) || (!(t130 == 90) || (!(t131 == 30) || (!(t132 == 1) || (!(t133 == 2))))))) = true
     ·rw [if_pos c29] at H
      have c29b0 : (!(t128 == 7) || (!(t129 == 1) || (!(t130 == 90) || (!(t131 == 30) || (!(t132 == 1) || (!(t133 == 2))))))) = true := c29
      clear c29; have H' := aM H; clear H
      try go_wp2
      have n0_ : Aside0 (Kd.R (Kd.int .u64) 26 ((((((w17.setCell ⟨gb121, 0, none⟩ (.int .i64 7)).setCell ⟨gb121, 1, none⟩ (.int .i64 1)).setCell ⟨gb121, 2, none⟩ (.int .i64 90)).setCell ⟨gb121, 3, none⟩ (.int .i64 30)).setCell ⟨gb121, 4, none⟩ (.int .i64 1)).setCell ⟨gb121, 5, none⟩ (.int .i64 2)) w.heap.size (fun _ => True) v102 y101) := ⟨by (with_reducible repeat (first | apply Kd.R_alloc | apply Kd.R_drewN | apply Kd.R_drew)); exact Kd.R_mono (Kd.R_far (p := ⟨gb121, 5, none⟩) (Kd.R_far (p := ⟨gb121, 4, none⟩) (Kd.R_far (p := ⟨gb121, 3, none⟩) (Kd.R_far (p := ⟨gb121, 2, none⟩) (Kd.R_far (p := ⟨gb121, 1, none⟩) (Kd.R_far (p := ⟨gb121, 0, none⟩) (Kd.R_types HO103.out BK121.out (by decide)) (fun _ hk => hk.2) (.int .i64 7)) (fun _ hk => hk.2) (.int .i64 1)) (fun _ hk => hk.2) (.int .i64 90)) (fun _ hk => hk.2) (.int .i64 30)) (fun _ hk => hk.2) (.int .i64 1)) (fun _ hk => hk.2) (.int .i64 2)) (fun _ hk => trivial)⟩
      have n1_ : Aside0 (((((((w17.setCell ⟨gb121, 0, none⟩ (.int .i64 7)).setCell ⟨gb121, 1, none⟩ (.int .i64 1)).setCell ⟨gb121, 2, none⟩ (.int .i64 90)).setCell ⟨gb121, 3, none⟩ (.int .i64 30)).setCell ⟨gb121, 4, none⟩ (.int .i64 1)).setCell ⟨gb121, 5, none⟩ (.int .i64 2)).heap[gb111]? = some (.cells #[.int .i64 t104, .int .i64 t105, .int .i64 t106, .int .i64 t107, .int .i64 t108, .int .i64 t109, .int .u64 t110] 28 (0, 0))) := ⟨bF BK111⟩
      have n2_ : Aside0 (((((((w17.setCell ⟨gb121, 0, none⟩ (.int .i64 7)).setCell ⟨gb121, 1, none⟩ (.int .i64 1)).setCell ⟨gb121, 2, none⟩ (.int .i64 90)).setCell ⟨gb121, 3, none⟩ (.int .i64 30)).setCell ⟨gb121, 4, none⟩ (.int .i64 1)).setCell ⟨gb121, 5, none⟩ (.int .i64 2)).heap[gb119]? = some (.cells #[.int .i64 t112, .int .i64 t113, .int .i64 t114, .int .i64 t115, .int .i64 t116, .int .i64 t117, .int .u64 t118] 28 (0, 0))) := ⟨bF BK119⟩
      have n3_ : Aside0 (((((((w17.setCell ⟨gb121, 0, none⟩ (.int .i64 7)).setCell ⟨gb121, 1, none⟩ (.int .i64 1)).setCell ⟨gb121, 2, none⟩ (.int .i64 90)).setCell ⟨gb121, 3, none⟩ (.int .i64 30)).setCell ⟨gb121, 4, none⟩ (.int .i64 1)).setCell ⟨gb121, 5, none⟩ (.int .i64 2)).heap[gb120]? = some (.cells #[.int .i64 t112, .int .i64 t113, .int .i64 t114, .int .i64 t115, .int .i64 t116, .int .i64 0, .int .u64 t118] 28 (0, 0))) := ⟨bF BK120⟩
      have n4_ : Aside0 (((((((w17.setCell ⟨gb121, 0, none⟩ (.int .i64 7)).setCell ⟨gb121, 1, none⟩ (.int .i64 1)).setCell ⟨gb121, 2, none⟩ (.int .i64 90)).setCell ⟨gb121, 3, none⟩ (.int .i64 30)).setCell ⟨gb121, 4, none⟩ (.int .i64 1)).setCell ⟨gb121, 5, none⟩ (.int .i64 2)).heap[gb121]? = some (.cells #[.int .i64 7, .int .i64 1, .int .i64 90, .int .i64 30, .int .i64 1, .int .i64 2] 40 (0, 0))) := ⟨by refine bM ?_; refine blk_put (cs := #[.int .i64 7, .int .i64 1, .int .i64 90, .int .i64 30, .int .i64 1, .int .i64 0]) ?_ 5 _ rfl; refine bM ?_; refine blk_put (cs := #[.int .i64 7, .int .i64 1, .int .i64 90, .int .i64 30, .int .i64 0, .int .i64 0]) ?_ 4 _ rfl; refine bM ?_; refine blk_put (cs := #[.int .i64 7, .int .i64 1, .int .i64 90, .int .i64 0, .int .i64 0, .int .i64 0]) ?_ 3 _ rfl; refine bM ?_; refine blk_put (cs := #[.int .i64 7, .int .i64 1, .int .i64 0, .int .i64 0, .int .i64 0, .int .i64 0]) ?_ 2 _ rfl; refine bM ?_; refine blk_put (cs := #[.int .i64 7, .int .i64 0, .int .i64 0, .int .i64 0, .int .i64 0, .int .i64 0]) ?_ 1 _ rfl; refine bM ?_; refine blk_put (cs := #[.int .i64 0, .int .i64 0, .int .i64 0, .int .i64 0, .int .i64 0, .int .i64 0]) ?_ 0 _ rfl; exact bD BK121⟩
      have n5_ : Aside0 (Below w.heap.size w ((((((w17.setCell ⟨gb121, 0, none⟩ (.int .i64 7)).setCell ⟨gb121, 1, none⟩ (.int .i64 1)).setCell ⟨gb121, 2, none⟩ (.int .i64 90)).setCell ⟨gb121, 3, none⟩ (.int .i64 30)).setCell ⟨gb121, 4, none⟩ (.int .i64 1)).setCell ⟨gb121, 5, none⟩ (.int .i64 2))) := ⟨sD HB⟩
      (try clear HO103); (try clear BK111); (try clear BK119); (try clear BK120); (try clear BK121); (try clear HB)
      generalize ((((((w17.setCell ⟨gb121, 0, none⟩ (.int .i64 7)).setCell ⟨gb121, 1, none⟩ (.int .i64 1)).setCell ⟨gb121, 2, none⟩ (.int .i64 90)).setCell ⟨gb121, 3, none⟩ (.int .i64 30)).setCell ⟨gb121, 4, none⟩ (.int .i64 1)).setCell ⟨gb121, 5, none⟩ (.int .i64 2)) = w30 at n0_ n1_ n2_ n3_ n4_ n5_ ⊢
      have HO103 := n0_; have BK111 := n1_; have BK119 := n2_; have BK120 := n3_; have BK121 := n4_; have HB := n5_; clear n0_ n1_ n2_ n3_ n4_ n5_; replace HO103 := aM (Kd.R_drew HO103.out); replace BK111 := aM (blk_drew BK111.out); replace BK119 := aM (blk_drew BK119.out); replace BK120 := aM (blk_drew BK120.out); replace BK121 := aM (blk_drew BK121.out); replace HB := aM (below_drew1 HB.out)
      obtain ⟨Ao32, co32, eo32⟩ := Kd.R_slice HO103.out
      (first | subst eo32 | (injection eo32 with f1_ f2_ f3_; have f4_ := f1_.symm; have f5_ := f3_.symm; clear f1_ f2_ f3_; subst f4_; subst f5_))
      refine start_ (n := 41) (S := fun w' => w'.cell? ⟨gb111, 0, none⟩ = some (.int .i64 t104) ∧ w'.cell? ⟨gb111, 1, none⟩ = some (.int .i64 t105) ∧ w'.cell? ⟨gb111, 2, none⟩ = some (.int .i64 t106) ∧ w'.cell? ⟨gb111, 3, none⟩ = some (.int .i64 t107) ∧ w'.cell? ⟨gb111, 4, none⟩ = some (.int .i64 t108) ∧ w'.cell? ⟨gb111, 5, none⟩ = some (.int .i64 t109) ∧ w'.cell? ⟨gb111, 6, none⟩ = some (.int .u64 t110) ∧ w'.cell? ⟨gb120, 0, none⟩ = some (.int .i64 t112) ∧ w'.cell? ⟨gb120, 1, none⟩ = some (.int .i64 t113) ∧ w'.cell? ⟨gb120, 2, none⟩ = some (.int .i64 t114) ∧ w'.cell? ⟨gb120, 3, none⟩ = some (.int .i64 t115) ∧ w'.cell? ⟨gb120, 4, none⟩ = some (.int .i64 t116) ∧ w'.cell? ⟨gb120, 5, none⟩ = some (.int .i64 0) ∧ w'.cell? ⟨gb120, 6, none⟩ = some (.int .u64 t118) ∧ w'.cell? ⟨gb119, 0, none⟩ = some (.int .i64 t112) ∧ w'.cell? ⟨gb119, 1, none⟩ = some (.int .i64 t113) ∧ w'.cell? ⟨gb119, 2, none⟩ = some (.int .i64 t114) ∧ w'.cell? ⟨gb119, 3, none⟩ = some (.int .i64 t115) ∧ w'.cell? ⟨gb119, 4, none⟩ = some (.int .i64 t116) ∧ w'.cell? ⟨gb119, 5, none⟩ = some (.int .i64 t117) ∧ w'.cell? ⟨gb119, 6, none⟩ = some (.int .u64 t118) ∧ w'.cell? ⟨gb121, 0, none⟩ = some (.int .i64 7) ∧ w'.cell? ⟨gb121, 1, none⟩ = some (.int .i64 1) ∧ w'.cell? ⟨gb121, 2, none⟩ = some (.int .i64 90) ∧ w'.cell? ⟨gb121, 3, none⟩ = some (.int .i64 30) ∧ w'.cell? ⟨gb121, 4, none⟩ = some (.int .i64 1) ∧ w'.cell? ⟨gb121, 5, none⟩ = some (.int .i64 2)) (ds := []) #[false, false, false, false, false, false, false, false, false, false, false, false, false, false, false, false, false, false, false, false, false, false, false, false, false, false, false, false, false, false, false, false, false, false, false, false, false, false, false, false, false] (by kernel_rfl) rfl rfl ⟨cE BK111 0, cE BK111 1, cE BK111 2, cE BK111 3, cE BK111 4, cE BK111 5, cE BK111 6, cE BK120 0, cE BK120 1, cE BK120 2, cE BK120 3, cE BK120 4, cE BK120 5, cE BK120 6, cE BK119 0, cE BK119 1, cE BK119 2, cE BK119 3, cE BK119 4, cE BK119 5, cE BK119 6, cE BK121 0, cE BK121 1, cE BK121 2, cE BK121 3, cE BK121 4, cE BK121 5⟩ (fun hHeld => ?_); refine with_tabW parolelaw32_examples0.tab7 parolelaw32_examples0.bits7 (fun HT_ HW_ => ?_)
      generalize w30.drew = w31 at HO103 BK111 BK119 BK120 BK121 HB hHeld ⊢
      refine pX (i := 0) (N := some 17) rfl rfl HT_ ?_
      refine tX (i := 1) (N := some 18) rfl rfl HT_ HW_ hHeld (Or.inl ⟨by rfl, by rintro w' ⟨s0, s1, s2, s3, s4, s5, s6, s7, s8, s9, s10, s11, s12, s13, s14, s15, s16, s17, s18, s19, s20, s21, s22, s23, s24, s25, s26⟩; go_simp; with_reducible rfl⟩) ?_
      refine oX (i := 2) (N := some 19) rfl rfl HT_ (fun K hK => ?_)
      refine gS Try.func17 #[.slice Ao32 y101.length co32, .agg #[.int .i64 t104, .int .i64 t105, .int .i64 t106, .int .i64 t107, .int .i64 t108, .int .i64 t109, .int .u64 t110]] ?_
      with_reducible refine (field_Right.calls k _ _ y101 t104 t105 t106 t107 t108 t109 t110 t122 _ ?side1 ?side2 A22.out).mono ?_
      (case side1 => exact rC HO103)
      (case side2 => exact rN HO103)
      rintro e w33 ⟨rfl, hb⟩
      refine ⟨_, rfl, ?_⟩
      replace HO103 := rB HO103 hb; replace BK111 := bB BK111 hb; replace BK119 := bB BK119 hb; replace BK120 := bB BK120 hb; replace BK121 := bB BK121 hb; replace HB := sB HB hb; (try clear hb); (try clear hb2); (try clear hk); (try clear hi)
      refine hK.out _ _ ⟨cE BK111 0, cE BK111 1, cE BK111 2, cE BK111 3, cE BK111 4, cE BK111 5, cE BK111 6, cE BK120 0, cE BK120 1, cE BK120 2, cE BK120 3, cE BK120 4, cE BK120 5, cE BK120 6, cE BK119 0, cE BK119 1, cE BK119 2, cE BK119 3, cE BK119 4, cE BK119 5, cE BK119 6, cE BK121 0, cE BK121 1, cE BK121 2, cE BK121 3, cE BK121 4, cE BK121 5⟩ (fun hHeld => ?_)
      clear hK K
      refine nX (some 19) ?_
      refine pX (i := 3) (N := some 20) rfl rfl HT_ ?_
      refine pX (i := 4) (N := some 21) rfl rfl HT_ ?_
      refine pX (i := 5) (N := some 22) rfl rfl HT_ ?_
      refine tX (i := 6) (N := some 23) rfl rfl HT_ HW_ hHeld (Or.inl ⟨by rfl, by rintro w' ⟨s0, s1, s2, s3, s4, s5, s6, s7, s8, s9, s10, s11, s12, s13, s14, s15, s16, s17, s18, s19, s20, s21, s22, s23, s24, s25, s26⟩; go_simp; with_reducible rfl⟩) ?_
      refine oX (i := 7) (N := some 24) rfl rfl HT_ (fun K hK => ?_)
      refine gS Try.func17 #[.slice Ao32 y101.length co32, .agg #[.int .i64 t112, .int .i64 t113, .int .i64 t114, .int .i64 t115, .int .i64 t116, .int .i64 0, .int .u64 t118]] ?_
      with_reducible refine (field_Right.calls k _ _ y101 t112 t113 t114 t115 t116 0 t118 t123 _ ?side1 ?side2 A24.out).mono ?_
      (case side1 => exact rC HO103)
      (case side2 => exact rN HO103)
      rintro e w34 ⟨rfl, hb⟩
      refine ⟨_, rfl, ?_⟩
      replace HO103 := rB HO103 hb; replace BK111 := bB BK111 hb; replace BK119 := bB BK119 hb; replace BK120 := bB BK120 hb; replace BK121 := bB BK121 hb; replace HB := sB HB hb; (try clear hb); (try clear hb2); (try clear hk); (try clear hi)
      refine hK.out _ _ ⟨cE BK111 0, cE BK111 1, cE BK111 2, cE BK111 3, cE BK111 4, cE BK111 5, cE BK111 6, cE BK120 0, cE BK120 1, cE BK120 2, cE BK120 3, cE BK120 4, cE BK120 5, cE BK120 6, cE BK119 0, cE BK119 1, cE BK119 2, cE BK119 3, cE BK119 4, cE BK119 5, cE BK119 6, cE BK121 0, cE BK121 1, cE BK121 2, cE BK121 3, cE BK121 4, cE BK121 5⟩ (fun hHeld => ?_)
      clear hK K
      refine nX (some 24) ?_
      refine pX (i := 8) (N := some 25) rfl rfl HT_ ?_
      refine pX (i := 9) (N := some 26) rfl rfl HT_ ?_
      refine pX (i := 10) (N := some 27) rfl rfl HT_ ?_
      refine tX (i := 11) (N := some 28) rfl rfl HT_ HW_ hHeld (Or.inl ⟨by rfl, by rintro w' ⟨s0, s1, s2, s3, s4, s5, s6, s7, s8, s9, s10, s11, s12, s13, s14, s15, s16, s17, s18, s19, s20, s21, s22, s23, s24, s25, s26⟩; go_simp; with_reducible rfl⟩) ?_
      refine oX (i := 12) (N := some 29) rfl rfl HT_ (fun K hK => ?_)
      refine gS Try.func17 #[.slice none 0 0, .agg #[.int .i64 t104, .int .i64 t105, .int .i64 t106, .int .i64 t107, .int .i64 t108, .int .i64 t109, .int .u64 t110]] ?_
      refine (field_Right.calls k _ _ ([] : List Int) t104 t105 t106 t107 t108 t109 t110 t124 _ ?side1 ?side2 A26.out).mono ?_
      (case side1 => exact Kd.C_nil _ _)
      (case side2 => exact Nat.le_refl _)
      rintro e w35 ⟨rfl, hb⟩
      refine ⟨_, rfl, ?_⟩
      replace HO103 := rB HO103 hb; replace BK111 := bB BK111 hb; replace BK119 := bB BK119 hb; replace BK120 := bB BK120 hb; replace BK121 := bB BK121 hb; replace HB := sB HB hb; (try clear hb); (try clear hb2); (try clear hk); (try clear hi)
      refine hK.out _ _ ⟨cE BK111 0, cE BK111 1, cE BK111 2, cE BK111 3, cE BK111 4, cE BK111 5, cE BK111 6, cE BK120 0, cE BK120 1, cE BK120 2, cE BK120 3, cE BK120 4, cE BK120 5, cE BK120 6, cE BK119 0, cE BK119 1, cE BK119 2, cE BK119 3, cE BK119 4, cE BK119 5, cE BK119 6, cE BK121 0, cE BK121 1, cE BK121 2, cE BK121 3, cE BK121 4, cE BK121 5⟩ (fun hHeld => ?_)
      clear hK K
      refine nX (some 29) ?_
      refine pX (i := 13) (N := some 30) rfl rfl HT_ ?_
      refine pX (i := 14) (N := some 31) rfl rfl HT_ ?_
      refine pX (i := 15) (N := some 32) rfl rfl HT_ ?_
      refine pX (i := 16) (N := some 33) rfl rfl HT_ ?_
      refine tX (i := 17) (N := some 34) rfl rfl HT_ HW_ hHeld (Or.inl ⟨by rfl, by rintro w' ⟨s0, s1, s2, s3, s4, s5, s6, s7, s8, s9, s10, s11, s12, s13, s14, s15, s16, s17, s18, s19, s20, s21, s22, s23, s24, s25, s26⟩; go_simp; with_reducible rfl⟩) ?_
      refine tX (i := 18) (N := some 35) rfl rfl HT_ HW_ hHeld (Or.inl ⟨by rfl, by rintro w' ⟨s0, s1, s2, s3, s4, s5, s6, s7, s8, s9, s10, s11, s12, s13, s14, s15, s16, s17, s18, s19, s20, s21, s22, s23, s24, s25, s26⟩; go_simp; with_reducible rfl⟩) ?_
      refine tX (i := 19) (N := some 36) rfl rfl HT_ HW_ hHeld (Or.inl ⟨by rfl, by rintro w' ⟨s0, s1, s2, s3, s4, s5, s6, s7, s8, s9, s10, s11, s12, s13, s14, s15, s16, s17, s18, s19, s20, s21, s22, s23, s24, s25, s26⟩; go_simp; with_reducible rfl⟩) ?_
      refine tX (i := 20) (N := some 37) rfl rfl HT_ HW_ hHeld (Or.inl ⟨by rfl, by rintro w' ⟨s0, s1, s2, s3, s4, s5, s6, s7, s8, s9, s10, s11, s12, s13, s14, s15, s16, s17, s18, s19, s20, s21, s22, s23, s24, s25, s26⟩; go_simp; with_reducible rfl⟩) ?_
      refine tX (i := 23) (N := some 40) rfl rfl HT_ HW_ hHeld (Or.inl ⟨by rfl, by rintro w' ⟨s0, s1, s2, s3, s4, s5, s6, s7, s8, s9, s10, s11, s12, s13, s14, s15, s16, s17, s18, s19, s20, s21, s22, s23, s24, s25, s26⟩; go_simp; with_reducible rfl⟩) ?_
      refine oX (i := 21) (N := some 38) rfl rfl HT_ (fun K hK => ?_)
      refine Kd.R_lit_step k28 _ 28 ?hg (N := 38) ?hd (xs := ([(⟨t112, t113, t114, t115, t116, t117, t118⟩ : S28), (⟨t104, t105, t106, t107, t108, t109, t110⟩ : S28), (⟨t112, t113, t114, t115, t116, 0, t118⟩ : S28), (⟨t112, t113, t114, t115, t116, t117, t118⟩ : S28)] : List (S28))) (inner := [.int .i64 t112, .int .i64 t113, .int .i64 t114, .int .i64 t115, .int .i64 t116, .int .i64 t117, .int .u64 t118, .int .i64 t104, .int .i64 t105, .int .i64 t106, .int .i64 t107, .int .i64 t108, .int .i64 t109, .int .u64 t110, .int .i64 t112, .int .i64 t113, .int .i64 t114, .int .i64 t115, .int .i64 t116, .int .i64 0, .int .u64 t118, .int .i64 t112, .int .i64 t113, .int .i64 t114, .int .i64 t115, .int .i64 t116, .int .i64 t117, .int .u64 t118]) (ok := fun _ => True) (okp := fun _ => True) ?hr ?hp (fun _ hk => hk) trivial (Below.refl _ _) (Nat.le_refl _) (by simp) ?_; (case hd => rfl); (case hg => rfl); (case hr => first | (go_simp; done) | (go_simp; rfl)); (case hp => exact (Reps.c7 (show Kd.M k28 _ _ _ (⟨t112, t113, t114, t115, t116, t117, t118⟩ : S28) [.int .i64 t112, .int .i64 t113, .int .i64 t114, .int .i64 t115, .int .i64 t116, .int .i64 t117, .int .u64 t118] from (k28_mkM _ _ _ (⟨t112, t113, t114, t115, t116, t117, t118⟩ : S28) )) (Reps.c7 (show Kd.M k28 _ _ _ (⟨t104, t105, t106, t107, t108, t109, t110⟩ : S28) [.int .i64 t104, .int .i64 t105, .int .i64 t106, .int .i64 t107, .int .i64 t108, .int .i64 t109, .int .u64 t110] from (k28_mkM _ _ _ (⟨t104, t105, t106, t107, t108, t109, t110⟩ : S28) )) (Reps.c7 (show Kd.M k28 _ _ _ (⟨t112, t113, t114, t115, t116, 0, t118⟩ : S28) [.int .i64 t112, .int .i64 t113, .int .i64 t114, .int .i64 t115, .int .i64 t116, .int .i64 0, .int .u64 t118] from (k28_mkM _ _ _ (⟨t112, t113, t114, t115, t116, 0, t118⟩ : S28) )) (Reps.c7 (show Kd.M k28 _ _ _ (⟨t112, t113, t114, t115, t116, t117, t118⟩ : S28) [.int .i64 t112, .int .i64 t113, .int .i64 t114, .int .i64 t115, .int .i64 t116, .int .i64 t117, .int .u64 t118] from (k28_mkM _ _ _ (⟨t112, t113, t114, t115, t116, t117, t118⟩ : S28) )) (Reps.none _ _))))))
      intro v126 w36 ho37 hb hg_ hnew_
      clear hg_ hnew_
      (first | rw [← Ny125.out] at ho37 | (simp only [Int.reduceToNat] at ho37; rw [← Ny125.out] at ho37))
      have HO127 := aM (Kd.R_lower (Kd.R_newB (Kd.R_newB (Kd.R_newB ho37 (g := gb111) (o := .cells #[.int .i64 t104, .int .i64 t105, .int .i64 t106, .int .i64 t107, .int .i64 t108, .int .i64 t109, .int .u64 t110] 28 (0, 0)) (bD BK111)) (g := gb119) (o := .cells #[.int .i64 t112, .int .i64 t113, .int .i64 t114, .int .i64 t115, .int .i64 t116, .int .i64 t117, .int .u64 t118] 28 (0, 0)) (bD BK119)) (g := gb120) (o := .cells #[.int .i64 t112, .int .i64 t113, .int .i64 t114, .int .i64 t115, .int .i64 t116, .int .i64 0, .int .u64 t118] 28 (0, 0)) (bD BK120)) (below_size (sD HB))); replace HO103 := rB HO103 hb; replace BK111 := bB BK111 hb; replace BK119 := bB BK119 hb; replace BK120 := bB BK120 hb
      replace BK121 := bB BK121 hb; replace HB := sB HB hb; clear hb ho37
      obtain ⟨Ao38, co38, eo38⟩ := Kd.R_slice HO127.out
      (first | subst eo38 | (injection eo38 with f1_ f2_ f3_; have f4_ := f1_.symm; have f5_ := f3_.symm; clear f1_ f2_ f3_; subst f4_; subst f5_))
      refine hK.out _ _ ⟨cE BK111 0, cE BK111 1, cE BK111 2, cE BK111 3, cE BK111 4, cE BK111 5, cE BK111 6, cE BK120 0, cE BK120 1, cE BK120 2, cE BK120 3, cE BK120 4, cE BK120 5, cE BK120 6, cE BK119 0, cE BK119 1, cE BK119 2, cE BK119 3, cE BK119 4, cE BK119 5, cE BK119 6, cE BK121 0, cE BK121 1, cE BK121 2, cE BK121 3, cE BK121 4, cE BK121 5⟩ (fun hHeld => ?_)
      clear hK K
      refine nX (some 38) ?_
      refine oX (i := 22) (N := some 39) rfl rfl HT_ (fun K hK => ?_)
      refine gS Try.func19 #[.slice Ao32 y101.length co32, .slice Ao38 y125.length co38, .int .i64 7] ?_
      with_reducible refine (field_Gather.calls k _ _ y101 _ _ y125 7 t128 t129 t130 t131 t132 t133 _ ?side1 ?side2 ?side3 ?side4 A28.out).mono ?_
      (case side1 => exact rC HO103)
      (case side2 => exact rN HO103)
      (case side3 => exact rC HO127)
      (case side4 => exact rN HO127)
      rintro e w39 ⟨rfl, hb⟩
      refine ⟨_, rfl, ?_⟩
      replace HO103 := rB HO103 hb; replace HO127 := rB HO127 hb; replace BK111 := bB BK111 hb; replace BK119 := bB BK119 hb; replace BK120 := bB BK120 hb; replace BK121 := bB BK121 hb; replace HB := sB HB hb; (try clear hb); (try clear hb2); (try clear hk); (try clear hi)
      refine hK.out _ _ ⟨cE BK111 0, cE BK111 1, cE BK111 2, cE BK111 3, cE BK111 4, cE BK111 5, cE BK111 6, cE BK120 0, cE BK120 1, cE BK120 2, cE BK120 3, cE BK120 4, cE BK120 5, cE BK120 6, cE BK119 0, cE BK119 1, cE BK119 2, cE BK119 3, cE BK119 4, cE BK119 5, cE BK119 6, cE BK121 0, cE BK121 1, cE BK121 2, cE BK121 3, cE BK121 4, cE BK121 5⟩ (fun hHeld => ?_)
      clear hK K
      refine nX (some 39) ?_
      refine pX (i := 24) (N := some 41) rfl rfl HT_ ?_
      refine pX (i := 25) (N := some 42) rfl rfl HT_ ?_
      refine pX (i := 26) (N := some 43) rfl rfl HT_ ?_
      refine pU (i := 27) (N := some 44) rfl rfl HT_ ?_
      refine pU (i := 28) (N := some 45) rfl rfl HT_ ?_
      refine pU (i := 29) (N := some 46) rfl rfl HT_ ?_
      refine pU (i := 30) (N := some 47) rfl rfl HT_ ?_
      refine pU (i := 31) (N := some 48) rfl rfl HT_ ?_
      refine pU (i := 32) (N := some 49) rfl rfl HT_ ?_
      refine pX (i := 33) (N := some 50) rfl rfl HT_ ?_
      refine pX (i := 34) (N := some 51) rfl rfl HT_ ?_
      refine pU (i := 35) (N := some 52) rfl rfl HT_ ?_
      refine pU (i := 36) (N := some 53) rfl rfl HT_ ?_
      refine pU (i := 37) (N := some 54) rfl rfl HT_ ?_
      refine pU (i := 38) (N := some 55) rfl rfl HT_ ?_
      refine pU (i := 39) (N := some 56) rfl rfl HT_ ?_
      refine pX (i := 40) (N := some 57) rfl rfl HT_ ?_
      refine done_ (done_of HT_.out (by kernel_rfl)) ?_
      try go_wp2
      go_meet
      case rel => exact ⟨_, (true), (by first | rfl | (simp; done) | (simp [*]; done)), H', ⟨by first | omega | exact Nat.le_refl _⟩, ⟨by exact bD BK111⟩, ⟨by exact bD BK119⟩, ⟨by exact bD BK120⟩, ⟨by exact bD BK121⟩, ⟨sD HB⟩⟩
     ·rw [if_neg c29] at H
      have c29b0 : (!(t128 == 7) || (!(t129 == 1) || (!(t130 == 90) || (!(t131 == 30) || (!(t132 == 1) || (!(t133 == 2))))))) = false := by simpa using c29
      clear c29
      obtain ⟨y134, hy134⟩ : ∃ y_ : List (S28), y_ = (([(⟨t104, t105, t106, t107, t108, t109, t110⟩ : S28)] : List (S28))) := ⟨_, rfl⟩
      replace H : ((field_Gather.f k y101 y134 8).bind fun bt137 => (if (!(bt137.1 == 8) || (!(bt137.2.1 == 0) || (!(bt137.2.2.1 == 0) || (!(bt137.2.2.2.1 == 0) || (!(bt137.2.2.2.2.1 == 0) || (!(bt137.2.2.2.2.2 == 0))))))) = true then (parolelaw32_examples0.j0 k true) else ((field_Tag.f k 99 t104 t105 t106 t107 t108 t109 t110).bind fun t143 => (parolelaw32_examples0.j0 k (t110 != t143))))) = some r := by first | (rw [hy134]; with_reducible exact H) | (have H2_ := (Option.bind_some _ _).symm.trans H; rw [hy134]; with_reducible exact H2_) | (have H2_ := (Option.bind_some _ _).symm.trans H; with_reducible exact H2_) | with_reducible exact H | (rw [hy134]; exact H) | exact H
      have Ny134 := aM hy134; clear hy134; replace H := Option.bind_eq_some_iff.mp H
      obtain ⟨⟨t137, t138, t139, t140, t141, t142⟩, A400, H⟩ := H
      replace H : (if (!(t137 == 8) || (!(t138 == 0) || (!(t139 == 0) || (!(t140 == 0) || (!(t141 == 0) || (!(t142 == 0))))))) = true then (parolelaw32_examples0.j0 k true) else ((field_Tag.f k 99 t104 t105 t106 t107 t108 t109 t110).bind fun t143 => (parolelaw32_examples0.j0 k (t110 != t143)))) = some r := H
      have A40 := aM A400; clear A400
      by_cases c41 : (!(t137 == 8) || (!(t138 == 0) || (!(t139 == 0) || (!(t140 == 0) || (!(t141 == 0) || (!(t142 == 0))))))) = true
      ·rw [if_pos c41] at H
       have c41b0 : (!(t137 == 8) || (!(t138 == 0) || (!(t139 == 0) || (!(t140 == 0) || (!(t141 == 0) || (!(t142 == 0))))))) = true := c41
       clear c41; have H' := aM H; clear H
       try go_wp2
       have n0_ : Aside0 (Kd.R (Kd.int .u64) 26 ((((((w17.setCell ⟨gb121, 0, none⟩ (.int .i64 7)).setCell ⟨gb121, 1, none⟩ (.int .i64 1)).setCell ⟨gb121, 2, none⟩ (.int .i64 90)).setCell ⟨gb121, 3, none⟩ (.int .i64 30)).setCell ⟨gb121, 4, none⟩ (.int .i64 1)).setCell ⟨gb121, 5, none⟩ (.int .i64 2)) w.heap.size (fun _ => True) v102 y101) := ⟨by (with_reducible repeat (first | apply Kd.R_alloc | apply Kd.R_drewN | apply Kd.R_drew)); exact Kd.R_mono (Kd.R_far (p := ⟨gb121, 5, none⟩) (Kd.R_far (p := ⟨gb121, 4, none⟩) (Kd.R_far (p := ⟨gb121, 3, none⟩) (Kd.R_far (p := ⟨gb121, 2, none⟩) (Kd.R_far (p := ⟨gb121, 1, none⟩) (Kd.R_far (p := ⟨gb121, 0, none⟩) (Kd.R_types HO103.out BK121.out (by decide)) (fun _ hk => hk.2) (.int .i64 7)) (fun _ hk => hk.2) (.int .i64 1)) (fun _ hk => hk.2) (.int .i64 90)) (fun _ hk => hk.2) (.int .i64 30)) (fun _ hk => hk.2) (.int .i64 1)) (fun _ hk => hk.2) (.int .i64 2)) (fun _ hk => trivial)⟩
       have n1_ : Aside0 (((((((w17.setCell ⟨gb121, 0, none⟩ (.int .i64 7)).setCell ⟨gb121, 1, none⟩ (.int .i64 1)).setCell ⟨gb121, 2, none⟩ (.int .i64 90)).setCell ⟨gb121, 3, none⟩ (.int .i64 30)).setCell ⟨gb121, 4, none⟩ (.int .i64 1)).setCell ⟨gb121, 5, none⟩ (.int .i64 2)).heap[gb111]? = some (.cells #[.int .i64 t104, .int .i64 t105, .int .i64 t106, .int .i64 t107, .int .i64 t108, .int .i64 t109, .int .u64 t110] 28 (0, 0))) := ⟨bF BK111⟩
       have n2_ : Aside0 (((((((w17.setCell ⟨gb121, 0, none⟩ (.int .i64 7)).setCell ⟨gb121, 1, none⟩ (.int .i64 1)).setCell ⟨gb121, 2, none⟩ (.int .i64 90)).setCell ⟨gb121, 3, none⟩ (.int .i64 30)).setCell ⟨gb121, 4, none⟩ (.int .i64 1)).setCell ⟨gb121, 5, none⟩ (.int .i64 2)).heap[gb119]? = some (.cells #[.int .i64 t112, .int .i64 t113, .int .i64 t114, .int .i64 t115, .int .i64 t116, .int .i64 t117, .int .u64 t118] 28 (0, 0))) := ⟨bF BK119⟩
       have n3_ : Aside0 (((((((w17.setCell ⟨gb121, 0, none⟩ (.int .i64 7)).setCell ⟨gb121, 1, none⟩ (.int .i64 1)).setCell ⟨gb121, 2, none⟩ (.int .i64 90)).setCell ⟨gb121, 3, none⟩ (.int .i64 30)).setCell ⟨gb121, 4, none⟩ (.int .i64 1)).setCell ⟨gb121, 5, none⟩ (.int .i64 2)).heap[gb120]? = some (.cells #[.int .i64 t112, .int .i64 t113, .int .i64 t114, .int .i64 t115, .int .i64 t116, .int .i64 0, .int .u64 t118] 28 (0, 0))) := ⟨bF BK120⟩
       have n4_ : Aside0 (((((((w17.setCell ⟨gb121, 0, none⟩ (.int .i64 7)).setCell ⟨gb121, 1, none⟩ (.int .i64 1)).setCell ⟨gb121, 2, none⟩ (.int .i64 90)).setCell ⟨gb121, 3, none⟩ (.int .i64 30)).setCell ⟨gb121, 4, none⟩ (.int .i64 1)).setCell ⟨gb121, 5, none⟩ (.int .i64 2)).heap[gb121]? = some (.cells #[.int .i64 7, .int .i64 1, .int .i64 90, .int .i64 30, .int .i64 1, .int .i64 2] 40 (0, 0))) := ⟨by refine bM ?_; refine blk_put (cs := #[.int .i64 7, .int .i64 1, .int .i64 90, .int .i64 30, .int .i64 1, .int .i64 0]) ?_ 5 _ rfl; refine bM ?_; refine blk_put (cs := #[.int .i64 7, .int .i64 1, .int .i64 90, .int .i64 30, .int .i64 0, .int .i64 0]) ?_ 4 _ rfl; refine bM ?_; refine blk_put (cs := #[.int .i64 7, .int .i64 1, .int .i64 90, .int .i64 0, .int .i64 0, .int .i64 0]) ?_ 3 _ rfl; refine bM ?_; refine blk_put (cs := #[.int .i64 7, .int .i64 1, .int .i64 0, .int .i64 0, .int .i64 0, .int .i64 0]) ?_ 2 _ rfl; refine bM ?_; refine blk_put (cs := #[.int .i64 7, .int .i64 0, .int .i64 0, .int .i64 0, .int .i64 0, .int .i64 0]) ?_ 1 _ rfl; refine bM ?_; refine blk_put (cs := #[.int .i64 0, .int .i64 0, .int .i64 0, .int .i64 0, .int .i64 0, .int .i64 0]) ?_ 0 _ rfl; exact bD BK121⟩
       have n5_ : Aside0 (Below w.heap.size w ((((((w17.setCell ⟨gb121, 0, none⟩ (.int .i64 7)).setCell ⟨gb121, 1, none⟩ (.int .i64 1)).setCell ⟨gb121, 2, none⟩ (.int .i64 90)).setCell ⟨gb121, 3, none⟩ (.int .i64 30)).setCell ⟨gb121, 4, none⟩ (.int .i64 1)).setCell ⟨gb121, 5, none⟩ (.int .i64 2))) := ⟨sD HB⟩
       (try clear HO103); (try clear BK111); (try clear BK119); (try clear BK120); (try clear BK121); (try clear HB)
       generalize ((((((w17.setCell ⟨gb121, 0, none⟩ (.int .i64 7)).setCell ⟨gb121, 1, none⟩ (.int .i64 1)).setCell ⟨gb121, 2, none⟩ (.int .i64 90)).setCell ⟨gb121, 3, none⟩ (.int .i64 30)).setCell ⟨gb121, 4, none⟩ (.int .i64 1)).setCell ⟨gb121, 5, none⟩ (.int .i64 2)) = w42 at n0_ n1_ n2_ n3_ n4_ n5_ ⊢
       have HO103 := n0_; have BK111 := n1_; have BK119 := n2_; have BK120 := n3_; have BK121 := n4_; have HB := n5_; clear n0_ n1_ n2_ n3_ n4_ n5_; replace HO103 := aM (Kd.R_drew HO103.out); replace BK111 := aM (blk_drew BK111.out); replace BK119 := aM (blk_drew BK119.out); replace BK120 := aM (blk_drew BK120.out); replace BK121 := aM (blk_drew BK121.out); replace HB := aM (below_drew1 HB.out)
       obtain ⟨Ao44, co44, eo44⟩ := Kd.R_slice HO103.out
       (first | subst eo44 | (injection eo44 with f1_ f2_ f3_; have f4_ := f1_.symm; have f5_ := f3_.symm; clear f1_ f2_ f3_; subst f4_; subst f5_))
       refine start_ (n := 41) (S := fun w' => w'.cell? ⟨gb111, 0, none⟩ = some (.int .i64 t104) ∧ w'.cell? ⟨gb111, 1, none⟩ = some (.int .i64 t105) ∧ w'.cell? ⟨gb111, 2, none⟩ = some (.int .i64 t106) ∧ w'.cell? ⟨gb111, 3, none⟩ = some (.int .i64 t107) ∧ w'.cell? ⟨gb111, 4, none⟩ = some (.int .i64 t108) ∧ w'.cell? ⟨gb111, 5, none⟩ = some (.int .i64 t109) ∧ w'.cell? ⟨gb111, 6, none⟩ = some (.int .u64 t110) ∧ w'.cell? ⟨gb120, 0, none⟩ = some (.int .i64 t112) ∧ w'.cell? ⟨gb120, 1, none⟩ = some (.int .i64 t113) ∧ w'.cell? ⟨gb120, 2, none⟩ = some (.int .i64 t114) ∧ w'.cell? ⟨gb120, 3, none⟩ = some (.int .i64 t115) ∧ w'.cell? ⟨gb120, 4, none⟩ = some (.int .i64 t116) ∧ w'.cell? ⟨gb120, 5, none⟩ = some (.int .i64 0) ∧ w'.cell? ⟨gb120, 6, none⟩ = some (.int .u64 t118) ∧ w'.cell? ⟨gb119, 0, none⟩ = some (.int .i64 t112) ∧ w'.cell? ⟨gb119, 1, none⟩ = some (.int .i64 t113) ∧ w'.cell? ⟨gb119, 2, none⟩ = some (.int .i64 t114) ∧ w'.cell? ⟨gb119, 3, none⟩ = some (.int .i64 t115) ∧ w'.cell? ⟨gb119, 4, none⟩ = some (.int .i64 t116) ∧ w'.cell? ⟨gb119, 5, none⟩ = some (.int .i64 t117) ∧ w'.cell? ⟨gb119, 6, none⟩ = some (.int .u64 t118) ∧ w'.cell? ⟨gb121, 0, none⟩ = some (.int .i64 7) ∧ w'.cell? ⟨gb121, 1, none⟩ = some (.int .i64 1) ∧ w'.cell? ⟨gb121, 2, none⟩ = some (.int .i64 90) ∧ w'.cell? ⟨gb121, 3, none⟩ = some (.int .i64 30) ∧ w'.cell? ⟨gb121, 4, none⟩ = some (.int .i64 1) ∧ w'.cell? ⟨gb121, 5, none⟩ = some (.int .i64 2)) (ds := []) #[false, false, false, false, false, false, false, false, false, false, false, false, false, false, false, false, false, false, false, false, false, false, false, false, false, false, false, false, false, false, false, false, false, false, false, false, false, false, false, false, false] (by kernel_rfl) rfl rfl ⟨cE BK111 0, cE BK111 1, cE BK111 2, cE BK111 3, cE BK111 4, cE BK111 5, cE BK111 6, cE BK120 0, cE BK120 1, cE BK120 2, cE BK120 3, cE BK120 4, cE BK120 5, cE BK120 6, cE BK119 0, cE BK119 1, cE BK119 2, cE BK119 3, cE BK119 4, cE BK119 5, cE BK119 6, cE BK121 0, cE BK121 1, cE BK121 2, cE BK121 3, cE BK121 4, cE BK121 5⟩ (fun hHeld => ?_); refine with_tabW parolelaw32_examples0.tab7 parolelaw32_examples0.bits7 (fun HT_ HW_ => ?_)
       generalize w42.drew = w43 at HO103 BK111 BK119 BK120 BK121 HB hHeld ⊢
       refine pX (i := 0) (N := some 17) rfl rfl HT_ ?_
       refine tX (i := 1) (N := some 18) rfl rfl HT_ HW_ hHeld (Or.inl ⟨by rfl, by rintro w' ⟨s0, s1, s2, s3, s4, s5, s6, s7, s8, s9, s10, s11, s12, s13, s14, s15, s16, s17, s18, s19, s20, s21, s22, s23, s24, s25, s26⟩; go_simp; with_reducible rfl⟩) ?_
       refine oX (i := 2) (N := some 19) rfl rfl HT_ (fun K hK => ?_)
       refine gS Try.func17 #[.slice Ao44 y101.length co44, .agg #[.int .i64 t104, .int .i64 t105, .int .i64 t106, .int .i64 t107, .int .i64 t108, .int .i64 t109, .int .u64 t110]] ?_
       with_reducible refine (field_Right.calls k _ _ y101 t104 t105 t106 t107 t108 t109 t110 t122 _ ?side1 ?side2 A22.out).mono ?_
       (case side1 => exact rC HO103)
       (case side2 => exact rN HO103)
       rintro e w45 ⟨rfl, hb⟩
       refine ⟨_, rfl, ?_⟩
       replace HO103 := rB HO103 hb; replace BK111 := bB BK111 hb; replace BK119 := bB BK119 hb; replace BK120 := bB BK120 hb; replace BK121 := bB BK121 hb; replace HB := sB HB hb; (try clear hb); (try clear hb2); (try clear hk); (try clear hi)
       refine hK.out _ _ ⟨cE BK111 0, cE BK111 1, cE BK111 2, cE BK111 3, cE BK111 4, cE BK111 5, cE BK111 6, cE BK120 0, cE BK120 1, cE BK120 2, cE BK120 3, cE BK120 4, cE BK120 5, cE BK120 6, cE BK119 0, cE BK119 1, cE BK119 2, cE BK119 3, cE BK119 4, cE BK119 5, cE BK119 6, cE BK121 0, cE BK121 1, cE BK121 2, cE BK121 3, cE BK121 4, cE BK121 5⟩ (fun hHeld => ?_)
       clear hK K
       refine nX (some 19) ?_
       refine pX (i := 3) (N := some 20) rfl rfl HT_ ?_
       refine pX (i := 4) (N := some 21) rfl rfl HT_ ?_
       refine pX (i := 5) (N := some 22) rfl rfl HT_ ?_
       refine tX (i := 6) (N := some 23) rfl rfl HT_ HW_ hHeld (Or.inl ⟨by rfl, by rintro w' ⟨s0, s1, s2, s3, s4, s5, s6, s7, s8, s9, s10, s11, s12, s13, s14, s15, s16, s17, s18, s19, s20, s21, s22, s23, s24, s25, s26⟩; go_simp; with_reducible rfl⟩) ?_
       refine oX (i := 7) (N := some 24) rfl rfl HT_ (fun K hK => ?_)
       refine gS Try.func17 #[.slice Ao44 y101.length co44, .agg #[.int .i64 t112, .int .i64 t113, .int .i64 t114, .int .i64 t115, .int .i64 t116, .int .i64 0, .int .u64 t118]] ?_
       with_reducible refine (field_Right.calls k _ _ y101 t112 t113 t114 t115 t116 0 t118 t123 _ ?side1 ?side2 A24.out).mono ?_
       (case side1 => exact rC HO103)
       (case side2 => exact rN HO103)
       rintro e w46 ⟨rfl, hb⟩
       refine ⟨_, rfl, ?_⟩
       replace HO103 := rB HO103 hb; replace BK111 := bB BK111 hb; replace BK119 := bB BK119 hb; replace BK120 := bB BK120 hb; replace BK121 := bB BK121 hb; replace HB := sB HB hb; (try clear hb); (try clear hb2); (try clear hk); (try clear hi)
       refine hK.out _ _ ⟨cE BK111 0, cE BK111 1, cE BK111 2, cE BK111 3, cE BK111 4, cE BK111 5, cE BK111 6, cE BK120 0, cE BK120 1, cE BK120 2, cE BK120 3, cE BK120 4, cE BK120 5, cE BK120 6, cE BK119 0, cE BK119 1, cE BK119 2, cE BK119 3, cE BK119 4, cE BK119 5, cE BK119 6, cE BK121 0, cE BK121 1, cE BK121 2, cE BK121 3, cE BK121 4, cE BK121 5⟩ (fun hHeld => ?_)
       clear hK K
       refine nX (some 24) ?_
       refine pX (i := 8) (N := some 25) rfl rfl HT_ ?_
       refine pX (i := 9) (N := some 26) rfl rfl HT_ ?_
       refine pX (i := 10) (N := some 27) rfl rfl HT_ ?_
       refine tX (i := 11) (N := some 28) rfl rfl HT_ HW_ hHeld (Or.inl ⟨by rfl, by rintro w' ⟨s0, s1, s2, s3, s4, s5, s6, s7, s8, s9, s10, s11, s12, s13, s14, s15, s16, s17, s18, s19, s20, s21, s22, s23, s24, s25, s26⟩; go_simp; with_reducible rfl⟩) ?_
       refine oX (i := 12) (N := some 29) rfl rfl HT_ (fun K hK => ?_)
       refine gS Try.func17 #[.slice none 0 0, .agg #[.int .i64 t104, .int .i64 t105, .int .i64 t106, .int .i64 t107, .int .i64 t108, .int .i64 t109, .int .u64 t110]] ?_
       refine (field_Right.calls k _ _ ([] : List Int) t104 t105 t106 t107 t108 t109 t110 t124 _ ?side1 ?side2 A26.out).mono ?_
       (case side1 => exact Kd.C_nil _ _)
       (case side2 => exact Nat.le_refl _)
       rintro e w47 ⟨rfl, hb⟩
       refine ⟨_, rfl, ?_⟩
       replace HO103 := rB HO103 hb; replace BK111 := bB BK111 hb; replace BK119 := bB BK119 hb; replace BK120 := bB BK120 hb; replace BK121 := bB BK121 hb; replace HB := sB HB hb; (try clear hb); (try clear hb2); (try clear hk); (try clear hi)
       refine hK.out _ _ ⟨cE BK111 0, cE BK111 1, cE BK111 2, cE BK111 3, cE BK111 4, cE BK111 5, cE BK111 6, cE BK120 0, cE BK120 1, cE BK120 2, cE BK120 3, cE BK120 4, cE BK120 5, cE BK120 6, cE BK119 0, cE BK119 1, cE BK119 2, cE BK119 3, cE BK119 4, cE BK119 5, cE BK119 6, cE BK121 0, cE BK121 1, cE BK121 2, cE BK121 3, cE BK121 4, cE BK121 5⟩ (fun hHeld => ?_)
       clear hK K
       refine nX (some 29) ?_
       refine pX (i := 13) (N := some 30) rfl rfl HT_ ?_
       refine pX (i := 14) (N := some 31) rfl rfl HT_ ?_
       refine pX (i := 15) (N := some 32) rfl rfl HT_ ?_
       refine pX (i := 16) (N := some 33) rfl rfl HT_ ?_
       refine tX (i := 17) (N := some 34) rfl rfl HT_ HW_ hHeld (Or.inl ⟨by rfl, by rintro w' ⟨s0, s1, s2, s3, s4, s5, s6, s7, s8, s9, s10, s11, s12, s13, s14, s15, s16, s17, s18, s19, s20, s21, s22, s23, s24, s25, s26⟩; go_simp; with_reducible rfl⟩) ?_
       refine tX (i := 18) (N := some 35) rfl rfl HT_ HW_ hHeld (Or.inl ⟨by rfl, by rintro w' ⟨s0, s1, s2, s3, s4, s5, s6, s7, s8, s9, s10, s11, s12, s13, s14, s15, s16, s17, s18, s19, s20, s21, s22, s23, s24, s25, s26⟩; go_simp; with_reducible rfl⟩) ?_
       refine tX (i := 19) (N := some 36) rfl rfl HT_ HW_ hHeld (Or.inl ⟨by rfl, by rintro w' ⟨s0, s1, s2, s3, s4, s5, s6, s7, s8, s9, s10, s11, s12, s13, s14, s15, s16, s17, s18, s19, s20, s21, s22, s23, s24, s25, s26⟩; go_simp; with_reducible rfl⟩) ?_
       refine tX (i := 20) (N := some 37) rfl rfl HT_ HW_ hHeld (Or.inl ⟨by rfl, by rintro w' ⟨s0, s1, s2, s3, s4, s5, s6, s7, s8, s9, s10, s11, s12, s13, s14, s15, s16, s17, s18, s19, s20, s21, s22, s23, s24, s25, s26⟩; go_simp; with_reducible rfl⟩) ?_
       refine tX (i := 23) (N := some 40) rfl rfl HT_ HW_ hHeld (Or.inl ⟨by rfl, by rintro w' ⟨s0, s1, s2, s3, s4, s5, s6, s7, s8, s9, s10, s11, s12, s13, s14, s15, s16, s17, s18, s19, s20, s21, s22, s23, s24, s25, s26⟩; go_simp; with_reducible rfl⟩) ?_
       refine oX (i := 21) (N := some 38) rfl rfl HT_ (fun K hK => ?_)
       refine Kd.R_lit_step k28 _ 28 ?hg (N := 38) ?hd (xs := ([(⟨t112, t113, t114, t115, t116, t117, t118⟩ : S28), (⟨t104, t105, t106, t107, t108, t109, t110⟩ : S28), (⟨t112, t113, t114, t115, t116, 0, t118⟩ : S28), (⟨t112, t113, t114, t115, t116, t117, t118⟩ : S28)] : List (S28))) (inner := [.int .i64 t112, .int .i64 t113, .int .i64 t114, .int .i64 t115, .int .i64 t116, .int .i64 t117, .int .u64 t118, .int .i64 t104, .int .i64 t105, .int .i64 t106, .int .i64 t107, .int .i64 t108, .int .i64 t109, .int .u64 t110, .int .i64 t112, .int .i64 t113, .int .i64 t114, .int .i64 t115, .int .i64 t116, .int .i64 0, .int .u64 t118, .int .i64 t112, .int .i64 t113, .int .i64 t114, .int .i64 t115, .int .i64 t116, .int .i64 t117, .int .u64 t118]) (ok := fun _ => True) (okp := fun _ => True) ?hr ?hp (fun _ hk => hk) trivial (Below.refl _ _) (Nat.le_refl _) (by simp) ?_; (case hd => rfl); (case hg => rfl); (case hr => first | (go_simp; done) | (go_simp; rfl)); (case hp => exact (Reps.c7 (show Kd.M k28 _ _ _ (⟨t112, t113, t114, t115, t116, t117, t118⟩ : S28) [.int .i64 t112, .int .i64 t113, .int .i64 t114, .int .i64 t115, .int .i64 t116, .int .i64 t117, .int .u64 t118] from (k28_mkM _ _ _ (⟨t112, t113, t114, t115, t116, t117, t118⟩ : S28) )) (Reps.c7 (show Kd.M k28 _ _ _ (⟨t104, t105, t106, t107, t108, t109, t110⟩ : S28) [.int .i64 t104, .int .i64 t105, .int .i64 t106, .int .i64 t107, .int .i64 t108, .int .i64 t109, .int .u64 t110] from (k28_mkM _ _ _ (⟨t104, t105, t106, t107, t108, t109, t110⟩ : S28) )) (Reps.c7 (show Kd.M k28 _ _ _ (⟨t112, t113, t114, t115, t116, 0, t118⟩ : S28) [.int .i64 t112, .int .i64 t113, .int .i64 t114, .int .i64 t115, .int .i64 t116, .int .i64 0, .int .u64 t118] from (k28_mkM _ _ _ (⟨t112, t113, t114, t115, t116, 0, t118⟩ : S28) )) (Reps.c7 (show Kd.M k28 _ _ _ (⟨t112, t113, t114, t115, t116, t117, t118⟩ : S28) [.int .i64 t112, .int .i64 t113, .int .i64 t114, .int .i64 t115, .int .i64 t116, .int .i64 t117, .int .u64 t118] from (k28_mkM _ _ _ (⟨t112, t113, t114, t115, t116, t117, t118⟩ : S28) )) (Reps.none _ _))))))
       intro v126 w48 ho49 hb hg_ hnew_
       clear hg_ hnew_
       (first | rw [← Ny125.out] at ho49 | (simp only [Int.reduceToNat] at ho49; rw [← Ny125.out] at ho49))
       have HO127 := aM (Kd.R_lower (Kd.R_newB (Kd.R_newB (Kd.R_newB ho49 (g := gb111) (o := .cells #[.int .i64 t104, .int .i64 t105, .int .i64 t106, .int .i64 t107, .int .i64 t108, .int .i64 t109, .int .u64 t110] 28 (0, 0)) (bD BK111)) (g := gb119) (o := .cells #[.int .i64 t112, .int .i64 t113, .int .i64 t114, .int .i64 t115, .int .i64 t116, .int .i64 t117, .int .u64 t118] 28 (0, 0)) (bD BK119)) (g := gb120) (o := .cells #[.int .i64 t112, .int .i64 t113, .int .i64 t114, .int .i64 t115, .int .i64 t116, .int .i64 0, .int .u64 t118] 28 (0, 0)) (bD BK120)) (below_size (sD HB))); replace HO103 := rB HO103 hb; replace BK111 := bB BK111 hb; replace BK119 := bB BK119 hb; replace BK120 := bB BK120 hb
       replace BK121 := bB BK121 hb; replace HB := sB HB hb; clear hb ho49
       obtain ⟨Ao50, co50, eo50⟩ := Kd.R_slice HO127.out
       (first | subst eo50 | (injection eo50 with f1_ f2_ f3_; have f4_ := f1_.symm; have f5_ := f3_.symm; clear f1_ f2_ f3_; subst f4_; subst f5_))
       refine hK.out _ _ ⟨cE BK111 0, cE BK111 1, cE BK111 2, cE BK111 3, cE BK111 4, cE BK111 5, cE BK111 6, cE BK120 0, cE BK120 1, cE BK120 2, cE BK120 3, cE BK120 4, cE BK120 5, cE BK120 6, cE BK119 0, cE BK119 1, cE BK119 2, cE BK119 3, cE BK119 4, cE BK119 5, cE BK119 6, cE BK121 0, cE BK121 1, cE BK121 2, cE BK121 3, cE BK121 4, cE BK121 5⟩ (fun hHeld => ?_)
       clear hK K
       refine nX (some 38) ?_
       refine oX (i := 22) (N := some 39) rfl rfl HT_ (fun K hK => ?_)
       refine gS Try.func19 #[.slice Ao44 y101.length co44, .slice Ao50 y125.length co50, .int .i64 7] ?_
       with_reducible refine (field_Gather.calls k _ _ y101 _ _ y125 7 t128 t129 t130 t131 t132 t133 _ ?side1 ?side2 ?side3 ?side4 A28.out).mono ?_
       (case side1 => exact rC HO103)
       (case side2 => exact rN HO103)
       (case side3 => exact rC HO127)
       (case side4 => exact rN HO127)
       rintro e w51 ⟨rfl, hb⟩
       refine ⟨_, rfl, ?_⟩
       replace HO103 := rB HO103 hb; replace HO127 := rB HO127 hb; replace BK111 := bB BK111 hb; replace BK119 := bB BK119 hb; replace BK120 := bB BK120 hb; replace BK121 := bB BK121 hb; replace HB := sB HB hb; (try clear hb); (try clear hb2); (try clear hk); (try clear hi)
       refine hK.out _ _ ⟨cE BK111 0, cE BK111 1, cE BK111 2, cE BK111 3, cE BK111 4, cE BK111 5, cE BK111 6, cE BK120 0, cE BK120 1, cE BK120 2, cE BK120 3, cE BK120 4, cE BK120 5, cE BK120 6, cE BK119 0, cE BK119 1, cE BK119 2, cE BK119 3, cE BK119 4, cE BK119 5, cE BK119 6, cE BK121 0, cE BK121 1, cE BK121 2, cE BK121 3, cE BK121 4, cE BK121 5⟩ (fun hHeld => ?_)
       clear hK K
       refine nX (some 39) ?_
       refine pX (i := 24) (N := some 41) rfl rfl HT_ ?_
       refine pX (i := 25) (N := some 42) rfl rfl HT_ ?_
       refine pX (i := 26) (N := some 43) rfl rfl HT_ ?_
       refine pX (i := 27) (N := some 44) rfl rfl HT_ ?_
       refine pX (i := 31) (N := some 48) rfl rfl HT_ ?_
       refine tX (i := 28) (N := some 45) rfl rfl HT_ HW_ hHeld (Or.inl ⟨by rfl, by rintro w' ⟨s0, s1, s2, s3, s4, s5, s6, s7, s8, s9, s10, s11, s12, s13, s14, s15, s16, s17, s18, s19, s20, s21, s22, s23, s24, s25, s26⟩; go_simp; with_reducible rfl⟩) ?_
       refine oX (i := 29) (N := some 46) rfl rfl HT_ (fun K hK => ?_)
       refine Kd.R_lit_step k28 _ 28 ?hg (N := 46) ?hd (xs := ([(⟨t104, t105, t106, t107, t108, t109, t110⟩ : S28)] : List (S28))) (inner := [.int .i64 t104, .int .i64 t105, .int .i64 t106, .int .i64 t107, .int .i64 t108, .int .i64 t109, .int .u64 t110]) (ok := fun _ => True) (okp := fun _ => True) ?hr ?hp (fun _ hk => hk) trivial (Below.refl _ _) (Nat.le_refl _) (by simp) ?_; (case hd => rfl); (case hg => rfl); (case hr => first | (go_simp; done) | (go_simp; rfl)); (case hp => exact (Reps.c7 (show Kd.M k28 _ _ _ (⟨t104, t105, t106, t107, t108, t109, t110⟩ : S28) [.int .i64 t104, .int .i64 t105, .int .i64 t106, .int .i64 t107, .int .i64 t108, .int .i64 t109, .int .u64 t110] from (k28_mkM _ _ _ (⟨t104, t105, t106, t107, t108, t109, t110⟩ : S28) )) (Reps.none _ _)))
       intro v135 w52 ho53 hb hg_ hnew_
       clear hg_ hnew_
       (first | rw [← Ny134.out] at ho53 | (simp only [Int.reduceToNat] at ho53; rw [← Ny134.out] at ho53))
       have HO136 := aM (Kd.R_lower (Kd.R_newB (Kd.R_newB (Kd.R_newB (Kd.R_new' ho53 (Kd.R_lt (rD HO127))) (g := gb111) (o := .cells #[.int .i64 t104, .int .i64 t105, .int .i64 t106, .int .i64 t107, .int .i64 t108, .int .i64 t109, .int .u64 t110] 28 (0, 0)) (bD BK111)) (g := gb119) (o := .cells #[.int .i64 t112, .int .i64 t113, .int .i64 t114, .int .i64 t115, .int .i64 t116, .int .i64 t117, .int .u64 t118] 28 (0, 0)) (bD BK119)) (g := gb120) (o := .cells #[.int .i64 t112, .int .i64 t113, .int .i64 t114, .int .i64 t115, .int .i64 t116, .int .i64 0, .int .u64 t118] 28 (0, 0)) (bD BK120)) (below_size (sD HB))); replace HO103 := rB HO103 hb; replace HO127 := aM (Kd.R_elder' (rD HO127) (Kd.R_base ho53) hb)
       replace BK111 := bB BK111 hb; replace BK119 := bB BK119 hb; replace BK120 := bB BK120 hb; replace BK121 := bB BK121 hb; replace HB := sB HB hb; clear hb ho53
       obtain ⟨Ao54, co54, eo54⟩ := Kd.R_slice HO136.out
       (first | subst eo54 | (injection eo54 with f1_ f2_ f3_; have f4_ := f1_.symm; have f5_ := f3_.symm; clear f1_ f2_ f3_; subst f4_; subst f5_))
       refine hK.out _ _ ⟨cE BK111 0, cE BK111 1, cE BK111 2, cE BK111 3, cE BK111 4, cE BK111 5, cE BK111 6, cE BK120 0, cE BK120 1, cE BK120 2, cE BK120 3, cE BK120 4, cE BK120 5, cE BK120 6, cE BK119 0, cE BK119 1, cE BK119 2, cE BK119 3, cE BK119 4, cE BK119 5, cE BK119 6, cE BK121 0, cE BK121 1, cE BK121 2, cE BK121 3, cE BK121 4, cE BK121 5⟩ (fun hHeld => ?_)
       clear hK K
       refine nX (some 46) ?_
       refine oX (i := 30) (N := some 47) rfl rfl HT_ (fun K hK => ?_)
       refine gS Try.func19 #[.slice Ao44 y101.length co44, .slice Ao54 y134.length co54, .int .i64 8] ?_
       with_reducible refine (field_Gather.calls k _ _ y101 _ _ y134 8 t137 t138 t139 t140 t141 t142 _ ?side1 ?side2 ?side3 ?side4 A40.out).mono ?_
       (case side1 => exact rC HO103)
       (case side2 => exact rN HO103)
       (case side3 => exact rC HO136)
       (case side4 => exact rN HO136)
       rintro e w55 ⟨rfl, hb⟩
       refine ⟨_, rfl, ?_⟩
       replace HO103 := rB HO103 hb; replace HO127 := rB HO127 hb; replace HO136 := rB HO136 hb; replace BK111 := bB BK111 hb; replace BK119 := bB BK119 hb; replace BK120 := bB BK120 hb; replace BK121 := bB BK121 hb; replace HB := sB HB hb; (try clear hb); (try clear hb2); (try clear hk); (try clear hi)
       refine hK.out _ _ ⟨cE BK111 0, cE BK111 1, cE BK111 2, cE BK111 3, cE BK111 4, cE BK111 5, cE BK111 6, cE BK120 0, cE BK120 1, cE BK120 2, cE BK120 3, cE BK120 4, cE BK120 5, cE BK120 6, cE BK119 0, cE BK119 1, cE BK119 2, cE BK119 3, cE BK119 4, cE BK119 5, cE BK119 6, cE BK121 0, cE BK121 1, cE BK121 2, cE BK121 3, cE BK121 4, cE BK121 5⟩ (fun hHeld => ?_)
       clear hK K
       refine nX (some 47) ?_
       refine pX (i := 32) (N := some 49) rfl rfl HT_ ?_
       refine pX (i := 33) (N := some 50) rfl rfl HT_ ?_
       refine pX (i := 34) (N := some 51) rfl rfl HT_ ?_
       refine pU (i := 35) (N := some 52) rfl rfl HT_ ?_
       refine pU (i := 36) (N := some 53) rfl rfl HT_ ?_
       refine pU (i := 37) (N := some 54) rfl rfl HT_ ?_
       refine pU (i := 38) (N := some 55) rfl rfl HT_ ?_
       refine pU (i := 39) (N := some 56) rfl rfl HT_ ?_
       refine pX (i := 40) (N := some 57) rfl rfl HT_ ?_
       refine done_ (done_of HT_.out (by kernel_rfl)) ?_
       try go_wp2
       go_meet
       case rel => exact ⟨_, (true), (by first | rfl | (simp; done) | (simp [*]; done)), H', ⟨by first | omega | exact Nat.le_refl _⟩, ⟨by exact bD BK111⟩, ⟨by exact bD BK119⟩, ⟨by exact bD BK120⟩, ⟨by exact bD BK121⟩, ⟨sD HB⟩⟩
      ·rw [if_neg c41] at H
       have c41b0 : (!(t137 == 8) || (!(t138 == 0) || (!(t139 == 0) || (!(t140 == 0) || (!(t141 == 0) || (!(t142 == 0))))))) = false := by simpa using c41
       clear c41; replace H := Option.bind_eq_some_iff.mp H
       obtain ⟨t143, A560, H⟩ := H
       replace H : (parolelaw32_examples0.j0 k (t110 != t143)) = some r := H
       have A56 := aM A560; clear A560; have H' := aM H; clear H
       try go_wp2
       have n0_ : Aside0 (Kd.R (Kd.int .u64) 26 ((((((w17.setCell ⟨gb121, 0, none⟩ (.int .i64 7)).setCell ⟨gb121, 1, none⟩ (.int .i64 1)).setCell ⟨gb121, 2, none⟩ (.int .i64 90)).setCell ⟨gb121, 3, none⟩ (.int .i64 30)).setCell ⟨gb121, 4, none⟩ (.int .i64 1)).setCell ⟨gb121, 5, none⟩ (.int .i64 2)) w.heap.size (fun _ => True) v102 y101) := ⟨by (with_reducible repeat (first | apply Kd.R_alloc | apply Kd.R_drewN | apply Kd.R_drew)); exact Kd.R_mono (Kd.R_far (p := ⟨gb121, 5, none⟩) (Kd.R_far (p := ⟨gb121, 4, none⟩) (Kd.R_far (p := ⟨gb121, 3, none⟩) (Kd.R_far (p := ⟨gb121, 2, none⟩) (Kd.R_far (p := ⟨gb121, 1, none⟩) (Kd.R_far (p := ⟨gb121, 0, none⟩) (Kd.R_types HO103.out BK121.out (by decide)) (fun _ hk => hk.2) (.int .i64 7)) (fun _ hk => hk.2) (.int .i64 1)) (fun _ hk => hk.2) (.int .i64 90)) (fun _ hk => hk.2) (.int .i64 30)) (fun _ hk => hk.2) (.int .i64 1)) (fun _ hk => hk.2) (.int .i64 2)) (fun _ hk => trivial)⟩
       have n1_ : Aside0 (((((((w17.setCell ⟨gb121, 0, none⟩ (.int .i64 7)).setCell ⟨gb121, 1, none⟩ (.int .i64 1)).setCell ⟨gb121, 2, none⟩ (.int .i64 90)).setCell ⟨gb121, 3, none⟩ (.int .i64 30)).setCell ⟨gb121, 4, none⟩ (.int .i64 1)).setCell ⟨gb121, 5, none⟩ (.int .i64 2)).heap[gb111]? = some (.cells #[.int .i64 t104, .int .i64 t105, .int .i64 t106, .int .i64 t107, .int .i64 t108, .int .i64 t109, .int .u64 t110] 28 (0, 0))) := ⟨bF BK111⟩
       have n2_ : Aside0 (((((((w17.setCell ⟨gb121, 0, none⟩ (.int .i64 7)).setCell ⟨gb121, 1, none⟩ (.int .i64 1)).setCell ⟨gb121, 2, none⟩ (.int .i64 90)).setCell ⟨gb121, 3, none⟩ (.int .i64 30)).setCell ⟨gb121, 4, none⟩ (.int .i64 1)).setCell ⟨gb121, 5, none⟩ (.int .i64 2)).heap[gb119]? = some (.cells #[.int .i64 t112, .int .i64 t113, .int .i64 t114, .int .i64 t115, .int .i64 t116, .int .i64 t117, .int .u64 t118] 28 (0, 0))) := ⟨bF BK119⟩
       have n3_ : Aside0 (((((((w17.setCell ⟨gb121, 0, none⟩ (.int .i64 7)).setCell ⟨gb121, 1, none⟩ (.int .i64 1)).setCell ⟨gb121, 2, none⟩ (.int .i64 90)).setCell ⟨gb121, 3, none⟩ (.int .i64 30)).setCell ⟨gb121, 4, none⟩ (.int .i64 1)).setCell ⟨gb121, 5, none⟩ (.int .i64 2)).heap[gb120]? = some (.cells #[.int .i64 t112, .int .i64 t113, .int .i64 t114, .int .i64 t115, .int .i64 t116, .int .i64 0, .int .u64 t118] 28 (0, 0))) := ⟨bF BK120⟩
       have n4_ : Aside0 (((((((w17.setCell ⟨gb121, 0, none⟩ (.int .i64 7)).setCell ⟨gb121, 1, none⟩ (.int .i64 1)).setCell ⟨gb121, 2, none⟩ (.int .i64 90)).setCell ⟨gb121, 3, none⟩ (.int .i64 30)).setCell ⟨gb121, 4, none⟩ (.int .i64 1)).setCell ⟨gb121, 5, none⟩ (.int .i64 2)).heap[gb121]? = some (.cells #[.int .i64 7, .int .i64 1, .int .i64 90, .int .i64 30, .int .i64 1, .int .i64 2] 40 (0, 0))) := ⟨by refine bM ?_; refine blk_put (cs := #[.int .i64 7, .int .i64 1, .int .i64 90, .int .i64 30, .int .i64 1, .int .i64 0]) ?_ 5 _ rfl; refine bM ?_; refine blk_put (cs := #[.int .i64 7, .int .i64 1, .int .i64 90, .int .i64 30, .int .i64 0, .int .i64 0]) ?_ 4 _ rfl; refine bM ?_; refine blk_put (cs := #[.int .i64 7, .int .i64 1, .int .i64 90, .int .i64 0, .int .i64 0, .int .i64 0]) ?_ 3 _ rfl; refine bM ?_; refine blk_put (cs := #[.int .i64 7, .int .i64 1, .int .i64 0, .int .i64 0, .int .i64 0, .int .i64 0]) ?_ 2 _ rfl; refine bM ?_; refine blk_put (cs := #[.int .i64 7, .int .i64 0, .int .i64 0, .int .i64 0, .int .i64 0, .int .i64 0]) ?_ 1 _ rfl; refine bM ?_; refine blk_put (cs := #[.int .i64 0, .int .i64 0, .int .i64 0, .int .i64 0, .int .i64 0, .int .i64 0]) ?_ 0 _ rfl; exact bD BK121⟩
       have n5_ : Aside0 (Below w.heap.size w ((((((w17.setCell ⟨gb121, 0, none⟩ (.int .i64 7)).setCell ⟨gb121, 1, none⟩ (.int .i64 1)).setCell ⟨gb121, 2, none⟩ (.int .i64 90)).setCell ⟨gb121, 3, none⟩ (.int .i64 30)).setCell ⟨gb121, 4, none⟩ (.int .i64 1)).setCell ⟨gb121, 5, none⟩ (.int .i64 2))) := ⟨sD HB⟩
       (try clear HO103); (try clear BK111); (try clear BK119); (try clear BK120); (try clear BK121); (try clear HB)
       generalize ((((((w17.setCell ⟨gb121, 0, none⟩ (.int .i64 7)).setCell ⟨gb121, 1, none⟩ (.int .i64 1)).setCell ⟨gb121, 2, none⟩ (.int .i64 90)).setCell ⟨gb121, 3, none⟩ (.int .i64 30)).setCell ⟨gb121, 4, none⟩ (.int .i64 1)).setCell ⟨gb121, 5, none⟩ (.int .i64 2)) = w57 at n0_ n1_ n2_ n3_ n4_ n5_ ⊢
       have HO103 := n0_; have BK111 := n1_; have BK119 := n2_; have BK120 := n3_; have BK121 := n4_; have HB := n5_; clear n0_ n1_ n2_ n3_ n4_ n5_; replace HO103 := aM (Kd.R_drew HO103.out); replace BK111 := aM (blk_drew BK111.out); replace BK119 := aM (blk_drew BK119.out); replace BK120 := aM (blk_drew BK120.out); replace BK121 := aM (blk_drew BK121.out); replace HB := aM (below_drew1 HB.out)
       obtain ⟨Ao59, co59, eo59⟩ := Kd.R_slice HO103.out
       (first | subst eo59 | (injection eo59 with f1_ f2_ f3_; have f4_ := f1_.symm; have f5_ := f3_.symm; clear f1_ f2_ f3_; subst f4_; subst f5_))
       refine start_ (n := 41) (S := fun w' => w'.cell? ⟨gb111, 0, none⟩ = some (.int .i64 t104) ∧ w'.cell? ⟨gb111, 1, none⟩ = some (.int .i64 t105) ∧ w'.cell? ⟨gb111, 2, none⟩ = some (.int .i64 t106) ∧ w'.cell? ⟨gb111, 3, none⟩ = some (.int .i64 t107) ∧ w'.cell? ⟨gb111, 4, none⟩ = some (.int .i64 t108) ∧ w'.cell? ⟨gb111, 5, none⟩ = some (.int .i64 t109) ∧ w'.cell? ⟨gb111, 6, none⟩ = some (.int .u64 t110) ∧ w'.cell? ⟨gb120, 0, none⟩ = some (.int .i64 t112) ∧ w'.cell? ⟨gb120, 1, none⟩ = some (.int .i64 t113) ∧ w'.cell? ⟨gb120, 2, none⟩ = some (.int .i64 t114) ∧ w'.cell? ⟨gb120, 3, none⟩ = some (.int .i64 t115) ∧ w'.cell? ⟨gb120, 4, none⟩ = some (.int .i64 t116) ∧ w'.cell? ⟨gb120, 5, none⟩ = some (.int .i64 0) ∧ w'.cell? ⟨gb120, 6, none⟩ = some (.int .u64 t118) ∧ w'.cell? ⟨gb119, 0, none⟩ = some (.int .i64 t112) ∧ w'.cell? ⟨gb119, 1, none⟩ = some (.int .i64 t113) ∧ w'.cell? ⟨gb119, 2, none⟩ = some (.int .i64 t114) ∧ w'.cell? ⟨gb119, 3, none⟩ = some (.int .i64 t115) ∧ w'.cell? ⟨gb119, 4, none⟩ = some (.int .i64 t116) ∧ w'.cell? ⟨gb119, 5, none⟩ = some (.int .i64 t117) ∧ w'.cell? ⟨gb119, 6, none⟩ = some (.int .u64 t118) ∧ w'.cell? ⟨gb121, 0, none⟩ = some (.int .i64 7) ∧ w'.cell? ⟨gb121, 1, none⟩ = some (.int .i64 1) ∧ w'.cell? ⟨gb121, 2, none⟩ = some (.int .i64 90) ∧ w'.cell? ⟨gb121, 3, none⟩ = some (.int .i64 30) ∧ w'.cell? ⟨gb121, 4, none⟩ = some (.int .i64 1) ∧ w'.cell? ⟨gb121, 5, none⟩ = some (.int .i64 2)) (ds := []) #[false, false, false, false, false, false, false, false, false, false, false, false, false, false, false, false, false, false, false, false, false, false, false, false, false, false, false, false, false, false, false, false, false, false, false, false, false, false, false, false, false] (by kernel_rfl) rfl rfl ⟨cE BK111 0, cE BK111 1, cE BK111 2, cE BK111 3, cE BK111 4, cE BK111 5, cE BK111 6, cE BK120 0, cE BK120 1, cE BK120 2, cE BK120 3, cE BK120 4, cE BK120 5, cE BK120 6, cE BK119 0, cE BK119 1, cE BK119 2, cE BK119 3, cE BK119 4, cE BK119 5, cE BK119 6, cE BK121 0, cE BK121 1, cE BK121 2, cE BK121 3, cE BK121 4, cE BK121 5⟩ (fun hHeld => ?_); refine with_tabW parolelaw32_examples0.tab7 parolelaw32_examples0.bits7 (fun HT_ HW_ => ?_)
       generalize w57.drew = w58 at HO103 BK111 BK119 BK120 BK121 HB hHeld ⊢
       refine pX (i := 0) (N := some 17) rfl rfl HT_ ?_
       refine tX (i := 1) (N := some 18) rfl rfl HT_ HW_ hHeld (Or.inl ⟨by rfl, by rintro w' ⟨s0, s1, s2, s3, s4, s5, s6, s7, s8, s9, s10, s11, s12, s13, s14, s15, s16, s17, s18, s19, s20, s21, s22, s23, s24, s25, s26⟩; go_simp; with_reducible rfl⟩) ?_
       refine oX (i := 2) (N := some 19) rfl rfl HT_ (fun K hK => ?_)
       refine gS Try.func17 #[.slice Ao59 y101.length co59, .agg #[.int .i64 t104, .int .i64 t105, .int .i64 t106, .int .i64 t107, .int .i64 t108, .int .i64 t109, .int .u64 t110]] ?_
       with_reducible refine (field_Right.calls k _ _ y101 t104 t105 t106 t107 t108 t109 t110 t122 _ ?side1 ?side2 A22.out).mono ?_
       (case side1 => exact rC HO103)
       (case side2 => exact rN HO103)
       rintro e w60 ⟨rfl, hb⟩
       refine ⟨_, rfl, ?_⟩
       replace HO103 := rB HO103 hb; replace BK111 := bB BK111 hb; replace BK119 := bB BK119 hb; replace BK120 := bB BK120 hb; replace BK121 := bB BK121 hb; replace HB := sB HB hb; (try clear hb); (try clear hb2); (try clear hk); (try clear hi)
       refine hK.out _ _ ⟨cE BK111 0, cE BK111 1, cE BK111 2, cE BK111 3, cE BK111 4, cE BK111 5, cE BK111 6, cE BK120 0, cE BK120 1, cE BK120 2, cE BK120 3, cE BK120 4, cE BK120 5, cE BK120 6, cE BK119 0, cE BK119 1, cE BK119 2, cE BK119 3, cE BK119 4, cE BK119 5, cE BK119 6, cE BK121 0, cE BK121 1, cE BK121 2, cE BK121 3, cE BK121 4, cE BK121 5⟩ (fun hHeld => ?_)
       clear hK K
       refine nX (some 19) ?_
       refine pX (i := 3) (N := some 20) rfl rfl HT_ ?_
       refine pX (i := 4) (N := some 21) rfl rfl HT_ ?_
       refine pX (i := 5) (N := some 22) rfl rfl HT_ ?_
       refine tX (i := 6) (N := some 23) rfl rfl HT_ HW_ hHeld (Or.inl ⟨by rfl, by rintro w' ⟨s0, s1, s2, s3, s4, s5, s6, s7, s8, s9, s10, s11, s12, s13, s14, s15, s16, s17, s18, s19, s20, s21, s22, s23, s24, s25, s26⟩; go_simp; with_reducible rfl⟩) ?_
       refine oX (i := 7) (N := some 24) rfl rfl HT_ (fun K hK => ?_)
       refine gS Try.func17 #[.slice Ao59 y101.length co59, .agg #[.int .i64 t112, .int .i64 t113, .int .i64 t114, .int .i64 t115, .int .i64 t116, .int .i64 0, .int .u64 t118]] ?_
       with_reducible refine (field_Right.calls k _ _ y101 t112 t113 t114 t115 t116 0 t118 t123 _ ?side1 ?side2 A24.out).mono ?_
       (case side1 => exact rC HO103)
       (case side2 => exact rN HO103)
       rintro e w61 ⟨rfl, hb⟩
       refine ⟨_, rfl, ?_⟩
       replace HO103 := rB HO103 hb; replace BK111 := bB BK111 hb; replace BK119 := bB BK119 hb; replace BK120 := bB BK120 hb; replace BK121 := bB BK121 hb; replace HB := sB HB hb; (try clear hb); (try clear hb2); (try clear hk); (try clear hi)
       refine hK.out _ _ ⟨cE BK111 0, cE BK111 1, cE BK111 2, cE BK111 3, cE BK111 4, cE BK111 5, cE BK111 6, cE BK120 0, cE BK120 1, cE BK120 2, cE BK120 3, cE BK120 4, cE BK120 5, cE BK120 6, cE BK119 0, cE BK119 1, cE BK119 2, cE BK119 3, cE BK119 4, cE BK119 5, cE BK119 6, cE BK121 0, cE BK121 1, cE BK121 2, cE BK121 3, cE BK121 4, cE BK121 5⟩ (fun hHeld => ?_)
       clear hK K
       refine nX (some 24) ?_
       refine pX (i := 8) (N := some 25) rfl rfl HT_ ?_
       refine pX (i := 9) (N := some 26) rfl rfl HT_ ?_
       refine pX (i := 10) (N := some 27) rfl rfl HT_ ?_
       refine tX (i := 11) (N := some 28) rfl rfl HT_ HW_ hHeld (Or.inl ⟨by rfl, by rintro w' ⟨s0, s1, s2, s3, s4, s5, s6, s7, s8, s9, s10, s11, s12, s13, s14, s15, s16, s17, s18, s19, s20, s21, s22, s23, s24, s25, s26⟩; go_simp; with_reducible rfl⟩) ?_
       refine oX (i := 12) (N := some 29) rfl rfl HT_ (fun K hK => ?_)
       refine gS Try.func17 #[.slice none 0 0, .agg #[.int .i64 t104, .int .i64 t105, .int .i64 t106, .int .i64 t107, .int .i64 t108, .int .i64 t109, .int .u64 t110]] ?_
       refine (field_Right.calls k _ _ ([] : List Int) t104 t105 t106 t107 t108 t109 t110 t124 _ ?side1 ?side2 A26.out).mono ?_
       (case side1 => exact Kd.C_nil _ _)
       (case side2 => exact Nat.le_refl _)
       rintro e w62 ⟨rfl, hb⟩
       refine ⟨_, rfl, ?_⟩
       replace HO103 := rB HO103 hb; replace BK111 := bB BK111 hb; replace BK119 := bB BK119 hb; replace BK120 := bB BK120 hb; replace BK121 := bB BK121 hb; replace HB := sB HB hb; (try clear hb); (try clear hb2); (try clear hk); (try clear hi)
       refine hK.out _ _ ⟨cE BK111 0, cE BK111 1, cE BK111 2, cE BK111 3, cE BK111 4, cE BK111 5, cE BK111 6, cE BK120 0, cE BK120 1, cE BK120 2, cE BK120 3, cE BK120 4, cE BK120 5, cE BK120 6, cE BK119 0, cE BK119 1, cE BK119 2, cE BK119 3, cE BK119 4, cE BK119 5, cE BK119 6, cE BK121 0, cE BK121 1, cE BK121 2, cE BK121 3, cE BK121 4, cE BK121 5⟩ (fun hHeld => ?_)
       clear hK K
       refine nX (some 29) ?_
       refine pX (i := 13) (N := some 30) rfl rfl HT_ ?_
       refine pX (i := 14) (N := some 31) rfl rfl HT_ ?_
       refine pX (i := 15) (N := some 32) rfl rfl HT_ ?_
       refine pX (i := 16) (N := some 33) rfl rfl HT_ ?_
       refine tX (i := 17) (N := some 34) rfl rfl HT_ HW_ hHeld (Or.inl ⟨by rfl, by rintro w' ⟨s0, s1, s2, s3, s4, s5, s6, s7, s8, s9, s10, s11, s12, s13, s14, s15, s16, s17, s18, s19, s20, s21, s22, s23, s24, s25, s26⟩; go_simp; with_reducible rfl⟩) ?_
       refine tX (i := 18) (N := some 35) rfl rfl HT_ HW_ hHeld (Or.inl ⟨by rfl, by rintro w' ⟨s0, s1, s2, s3, s4, s5, s6, s7, s8, s9, s10, s11, s12, s13, s14, s15, s16, s17, s18, s19, s20, s21, s22, s23, s24, s25, s26⟩; go_simp; with_reducible rfl⟩) ?_
       refine tX (i := 19) (N := some 36) rfl rfl HT_ HW_ hHeld (Or.inl ⟨by rfl, by rintro w' ⟨s0, s1, s2, s3, s4, s5, s6, s7, s8, s9, s10, s11, s12, s13, s14, s15, s16, s17, s18, s19, s20, s21, s22, s23, s24, s25, s26⟩; go_simp; with_reducible rfl⟩) ?_
       refine tX (i := 20) (N := some 37) rfl rfl HT_ HW_ hHeld (Or.inl ⟨by rfl, by rintro w' ⟨s0, s1, s2, s3, s4, s5, s6, s7, s8, s9, s10, s11, s12, s13, s14, s15, s16, s17, s18, s19, s20, s21, s22, s23, s24, s25, s26⟩; go_simp; with_reducible rfl⟩) ?_
       refine tX (i := 23) (N := some 40) rfl rfl HT_ HW_ hHeld (Or.inl ⟨by rfl, by rintro w' ⟨s0, s1, s2, s3, s4, s5, s6, s7, s8, s9, s10, s11, s12, s13, s14, s15, s16, s17, s18, s19, s20, s21, s22, s23, s24, s25, s26⟩; go_simp; with_reducible rfl⟩) ?_
       refine oX (i := 21) (N := some 38) rfl rfl HT_ (fun K hK => ?_)
       refine Kd.R_lit_step k28 _ 28 ?hg (N := 38) ?hd (xs := ([(⟨t112, t113, t114, t115, t116, t117, t118⟩ : S28), (⟨t104, t105, t106, t107, t108, t109, t110⟩ : S28), (⟨t112, t113, t114, t115, t116, 0, t118⟩ : S28), (⟨t112, t113, t114, t115, t116, t117, t118⟩ : S28)] : List (S28))) (inner := [.int .i64 t112, .int .i64 t113, .int .i64 t114, .int .i64 t115, .int .i64 t116, .int .i64 t117, .int .u64 t118, .int .i64 t104, .int .i64 t105, .int .i64 t106, .int .i64 t107, .int .i64 t108, .int .i64 t109, .int .u64 t110, .int .i64 t112, .int .i64 t113, .int .i64 t114, .int .i64 t115, .int .i64 t116, .int .i64 0, .int .u64 t118, .int .i64 t112, .int .i64 t113, .int .i64 t114, .int .i64 t115, .int .i64 t116, .int .i64 t117, .int .u64 t118]) (ok := fun _ => True) (okp := fun _ => True) ?hr ?hp (fun _ hk => hk) trivial (Below.refl _ _) (Nat.le_refl _) (by simp) ?_; (case hd => rfl); (case hg => rfl); (case hr => first | (go_simp; done) | (go_simp; rfl)); (case hp => exact (Reps.c7 (show Kd.M k28 _ _ _ (⟨t112, t113, t114, t115, t116, t117, t118⟩ : S28) [.int .i64 t112, .int .i64 t113, .int .i64 t114, .int .i64 t115, .int .i64 t116, .int .i64 t117, .int .u64 t118] from (k28_mkM _ _ _ (⟨t112, t113, t114, t115, t116, t117, t118⟩ : S28) )) (Reps.c7 (show Kd.M k28 _ _ _ (⟨t104, t105, t106, t107, t108, t109, t110⟩ : S28) [.int .i64 t104, .int .i64 t105, .int .i64 t106, .int .i64 t107, .int .i64 t108, .int .i64 t109, .int .u64 t110] from (k28_mkM _ _ _ (⟨t104, t105, t106, t107, t108, t109, t110⟩ : S28) )) (Reps.c7 (show Kd.M k28 _ _ _ (⟨t112, t113, t114, t115, t116, 0, t118⟩ : S28) [.int .i64 t112, .int .i64 t113, .int .i64 t114, .int .i64 t115, .int .i64 t116, .int .i64 0, .int .u64 t118] from (k28_mkM _ _ _ (⟨t112, t113, t114, t115, t116, 0, t118⟩ : S28) )) (Reps.c7 (show Kd.M k28 _ _ _ (⟨t112, t113, t114, t115, t116, t117, t118⟩ : S28) [.int .i64 t112, .int .i64 t113, .int .i64 t114, .int .i64 t115, .int .i64 t116, .int .i64 t117, .int .u64 t118] from (k28_mkM _ _ _ (⟨t112, t113, t114, t115, t116, t117, t118⟩ : S28) )) (Reps.none _ _))))))
       intro v126 w63 ho64 hb hg_ hnew_
       clear hg_ hnew_
       (first | rw [← Ny125.out] at ho64 | (simp only [Int.reduceToNat] at ho64; rw [← Ny125.out] at ho64))
       have HO127 := aM (Kd.R_lower (Kd.R_newB (Kd.R_newB (Kd.R_newB ho64 (g := gb111) (o := .cells #[.int .i64 t104, .int .i64 t105, .int .i64 t106, .int .i64 t107, .int .i64 t108, .int .i64 t109, .int .u64 t110] 28 (0, 0)) (bD BK111)) (g := gb119) (o := .cells #[.int .i64 t112, .int .i64 t113, .int .i64 t114, .int .i64 t115, .int .i64 t116, .int .i64 t117, .int .u64 t118] 28 (0, 0)) (bD BK119)) (g := gb120) (o := .cells #[.int .i64 t112, .int .i64 t113, .int .i64 t114, .int .i64 t115, .int .i64 t116, .int .i64 0, .int .u64 t118] 28 (0, 0)) (bD BK120)) (below_size (sD HB))); replace HO103 := rB HO103 hb; replace BK111 := bB BK111 hb; replace BK119 := bB BK119 hb; replace BK120 := bB BK120 hb
       replace BK121 := bB BK121 hb; replace HB := sB HB hb; clear hb ho64
       obtain ⟨Ao65, co65, eo65⟩ := Kd.R_slice HO127.out
       (first | subst eo65 | (injection eo65 with f1_ f2_ f3_; have f4_ := f1_.symm; have f5_ := f3_.symm; clear f1_ f2_ f3_; subst f4_; subst f5_))
       refine hK.out _ _ ⟨cE BK111 0, cE BK111 1, cE BK111 2, cE BK111 3, cE BK111 4, cE BK111 5, cE BK111 6, cE BK120 0, cE BK120 1, cE BK120 2, cE BK120 3, cE BK120 4, cE BK120 5, cE BK120 6, cE BK119 0, cE BK119 1, cE BK119 2, cE BK119 3, cE BK119 4, cE BK119 5, cE BK119 6, cE BK121 0, cE BK121 1, cE BK121 2, cE BK121 3, cE BK121 4, cE BK121 5⟩ (fun hHeld => ?_)
       clear hK K
       refine nX (some 38) ?_
       refine oX (i := 22) (N := some 39) rfl rfl HT_ (fun K hK => ?_)
       refine gS Try.func19 #[.slice Ao59 y101.length co59, .slice Ao65 y125.length co65, .int .i64 7] ?_
       with_reducible refine (field_Gather.calls k _ _ y101 _ _ y125 7 t128 t129 t130 t131 t132 t133 _ ?side1 ?side2 ?side3 ?side4 A28.out).mono ?_
       (case side1 => exact rC HO103)
       (case side2 => exact rN HO103)
       (case side3 => exact rC HO127)
       (case side4 => exact rN HO127)
       rintro e w66 ⟨rfl, hb⟩
       refine ⟨_, rfl, ?_⟩
       replace HO103 := rB HO103 hb; replace HO127 := rB HO127 hb; replace BK111 := bB BK111 hb; replace BK119 := bB BK119 hb; replace BK120 := bB BK120 hb; replace BK121 := bB BK121 hb; replace HB := sB HB hb; (try clear hb); (try clear hb2); (try clear hk); (try clear hi)
       refine hK.out _ _ ⟨cE BK111 0, cE BK111 1, cE BK111 2, cE BK111 3, cE BK111 4, cE BK111 5, cE BK111 6, cE BK120 0, cE BK120 1, cE BK120 2, cE BK120 3, cE BK120 4, cE BK120 5, cE BK120 6, cE BK119 0, cE BK119 1, cE BK119 2, cE BK119 3, cE BK119 4, cE BK119 5, cE BK119 6, cE BK121 0, cE BK121 1, cE BK121 2, cE BK121 3, cE BK121 4, cE BK121 5⟩ (fun hHeld => ?_)
       clear hK K
       refine nX (some 39) ?_
       refine pX (i := 24) (N := some 41) rfl rfl HT_ ?_
       refine pX (i := 25) (N := some 42) rfl rfl HT_ ?_
       refine pX (i := 26) (N := some 43) rfl rfl HT_ ?_
       refine pX (i := 27) (N := some 44) rfl rfl HT_ ?_
       refine pX (i := 31) (N := some 48) rfl rfl HT_ ?_
       refine tX (i := 28) (N := some 45) rfl rfl HT_ HW_ hHeld (Or.inl ⟨by rfl, by rintro w' ⟨s0, s1, s2, s3, s4, s5, s6, s7, s8, s9, s10, s11, s12, s13, s14, s15, s16, s17, s18, s19, s20, s21, s22, s23, s24, s25, s26⟩; go_simp; with_reducible rfl⟩) ?_
       refine oX (i := 29) (N := some 46) rfl rfl HT_ (fun K hK => ?_)
       refine Kd.R_lit_step k28 _ 28 ?hg (N := 46) ?hd (xs := ([(⟨t104, t105, t106, t107, t108, t109, t110⟩ : S28)] : List (S28))) (inner := [.int .i64 t104, .int .i64 t105, .int .i64 t106, .int .i64 t107, .int .i64 t108, .int .i64 t109, .int .u64 t110]) (ok := fun _ => True) (okp := fun _ => True) ?hr ?hp (fun _ hk => hk) trivial (Below.refl _ _) (Nat.le_refl _) (by simp) ?_; (case hd => rfl); (case hg => rfl); (case hr => first | (go_simp; done) | (go_simp; rfl)); (case hp => exact (Reps.c7 (show Kd.M k28 _ _ _ (⟨t104, t105, t106, t107, t108, t109, t110⟩ : S28) [.int .i64 t104, .int .i64 t105, .int .i64 t106, .int .i64 t107, .int .i64 t108, .int .i64 t109, .int .u64 t110] from (k28_mkM _ _ _ (⟨t104, t105, t106, t107, t108, t109, t110⟩ : S28) )) (Reps.none _ _)))
       intro v135 w67 ho68 hb hg_ hnew_
       clear hg_ hnew_
       (first | rw [← Ny134.out] at ho68 | (simp only [Int.reduceToNat] at ho68; rw [← Ny134.out] at ho68))
       have HO136 := aM (Kd.R_lower (Kd.R_newB (Kd.R_newB (Kd.R_newB (Kd.R_new' ho68 (Kd.R_lt (rD HO127))) (g := gb111) (o := .cells #[.int .i64 t104, .int .i64 t105, .int .i64 t106, .int .i64 t107, .int .i64 t108, .int .i64 t109, .int .u64 t110] 28 (0, 0)) (bD BK111)) (g := gb119) (o := .cells #[.int .i64 t112, .int .i64 t113, .int .i64 t114, .int .i64 t115, .int .i64 t116, .int .i64 t117, .int .u64 t118] 28 (0, 0)) (bD BK119)) (g := gb120) (o := .cells #[.int .i64 t112, .int .i64 t113, .int .i64 t114, .int .i64 t115, .int .i64 t116, .int .i64 0, .int .u64 t118] 28 (0, 0)) (bD BK120)) (below_size (sD HB))); replace HO103 := rB HO103 hb; replace HO127 := aM (Kd.R_elder' (rD HO127) (Kd.R_base ho68) hb)
       replace BK111 := bB BK111 hb; replace BK119 := bB BK119 hb; replace BK120 := bB BK120 hb; replace BK121 := bB BK121 hb; replace HB := sB HB hb; clear hb ho68
       obtain ⟨Ao69, co69, eo69⟩ := Kd.R_slice HO136.out
       (first | subst eo69 | (injection eo69 with f1_ f2_ f3_; have f4_ := f1_.symm; have f5_ := f3_.symm; clear f1_ f2_ f3_; subst f4_; subst f5_))
       refine hK.out _ _ ⟨cE BK111 0, cE BK111 1, cE BK111 2, cE BK111 3, cE BK111 4, cE BK111 5, cE BK111 6, cE BK120 0, cE BK120 1, cE BK120 2, cE BK120 3, cE BK120 4, cE BK120 5, cE BK120 6, cE BK119 0, cE BK119 1, cE BK119 2, cE BK119 3, cE BK119 4, cE BK119 5, cE BK119 6, cE BK121 0, cE BK121 1, cE BK121 2, cE BK121 3, cE BK121 4, cE BK121 5⟩ (fun hHeld => ?_)
       clear hK K
       refine nX (some 46) ?_
       refine oX (i := 30) (N := some 47) rfl rfl HT_ (fun K hK => ?_)
       refine gS Try.func19 #[.slice Ao59 y101.length co59, .slice Ao69 y134.length co69, .int .i64 8] ?_
       with_reducible refine (field_Gather.calls k _ _ y101 _ _ y134 8 t137 t138 t139 t140 t141 t142 _ ?side1 ?side2 ?side3 ?side4 A40.out).mono ?_
       (case side1 => exact rC HO103)
       (case side2 => exact rN HO103)
       (case side3 => exact rC HO136)
       (case side4 => exact rN HO136)
       rintro e w70 ⟨rfl, hb⟩
       refine ⟨_, rfl, ?_⟩
       replace HO103 := rB HO103 hb; replace HO127 := rB HO127 hb; replace HO136 := rB HO136 hb; replace BK111 := bB BK111 hb; replace BK119 := bB BK119 hb; replace BK120 := bB BK120 hb; replace BK121 := bB BK121 hb; replace HB := sB HB hb; (try clear hb); (try clear hb2); (try clear hk); (try clear hi)
       refine hK.out _ _ ⟨cE BK111 0, cE BK111 1, cE BK111 2, cE BK111 3, cE BK111 4, cE BK111 5, cE BK111 6, cE BK120 0, cE BK120 1, cE BK120 2, cE BK120 3, cE BK120 4, cE BK120 5, cE BK120 6, cE BK119 0, cE BK119 1, cE BK119 2, cE BK119 3, cE BK119 4, cE BK119 5, cE BK119 6, cE BK121 0, cE BK121 1, cE BK121 2, cE BK121 3, cE BK121 4, cE BK121 5⟩ (fun hHeld => ?_)
       clear hK K
       refine nX (some 47) ?_
       refine pX (i := 32) (N := some 49) rfl rfl HT_ ?_
       refine pX (i := 33) (N := some 50) rfl rfl HT_ ?_
       refine pX (i := 34) (N := some 51) rfl rfl HT_ ?_
       refine pX (i := 35) (N := some 52) rfl rfl HT_ ?_
       refine tX (i := 36) (N := some 53) rfl rfl HT_ HW_ hHeld (Or.inl ⟨by rfl, by rintro w' ⟨s0, s1, s2, s3, s4, s5, s6, s7, s8, s9, s10, s11, s12, s13, s14, s15, s16, s17, s18, s19, s20, s21, s22, s23, s24, s25, s26⟩; go_simp; with_reducible rfl⟩) ?_
       refine tX (i := 37) (N := some 54) rfl rfl HT_ HW_ hHeld (Or.inl ⟨by rfl, by rintro w' ⟨s0, s1, s2, s3, s4, s5, s6, s7, s8, s9, s10, s11, s12, s13, s14, s15, s16, s17, s18, s19, s20, s21, s22, s23, s24, s25, s26⟩; go_simp; with_reducible rfl⟩) ?_
       refine oX (i := 38) (N := some 55) rfl rfl HT_ (fun K hK => ?_)
       refine gS Try.func14 #[.int .u64 99, .agg #[.int .i64 t104, .int .i64 t105, .int .i64 t106, .int .i64 t107, .int .i64 t108, .int .i64 t109, .int .u64 t110]] ?_
       with_reducible refine (field_Tag.calls k 99 t104 t105 t106 t107 t108 t109 t110 t143 _ A56.out).mono ?_
       rintro e w71 ⟨rfl, hb⟩
       refine ⟨_, rfl, ?_⟩
       replace HO103 := rB HO103 hb; replace HO127 := rB HO127 hb; replace HO136 := rB HO136 hb; replace BK111 := bB BK111 hb; replace BK119 := bB BK119 hb; replace BK120 := bB BK120 hb; replace BK121 := bB BK121 hb; replace HB := sB HB hb; (try clear hb); (try clear hb2); (try clear hk); (try clear hi)
       refine hK.out _ _ ⟨cE BK111 0, cE BK111 1, cE BK111 2, cE BK111 3, cE BK111 4, cE BK111 5, cE BK111 6, cE BK120 0, cE BK120 1, cE BK120 2, cE BK120 3, cE BK120 4, cE BK120 5, cE BK120 6, cE BK119 0, cE BK119 1, cE BK119 2, cE BK119 3, cE BK119 4, cE BK119 5, cE BK119 6, cE BK121 0, cE BK121 1, cE BK121 2, cE BK121 3, cE BK121 4, cE BK121 5⟩ (fun hHeld => ?_)
       clear hK K
       refine nX (some 55) ?_
       refine pX (i := 39) (N := some 56) rfl rfl HT_ ?_
       refine pX (i := 40) (N := some 57) rfl rfl HT_ ?_
       refine done_ (done_of HT_.out (by kernel_rfl)) ?_
       try go_wp2
       go_meet
       case rel => exact ⟨_, ((t110 != t143)), (by first | rfl | (simp; done) | (simp [*]; done)), H', ⟨by first | omega | exact Nat.le_refl _⟩, ⟨by exact bD BK111⟩, ⟨by exact bD BK119⟩, ⟨by exact bD BK120⟩, ⟨by exact bD BK121⟩, ⟨sD HB⟩⟩
    ·rw [if_neg c27] at H
     have c27b0 : (t124 == 320) = false := beq_eq_false_iff_ne.mpr c27
     have c27b1 : (t124 != 320) = true := bne_iff_ne.mpr c27
     have H' := aM H; clear H
     try go_wp2
     have n0_ : Aside0 (Kd.R (Kd.int .u64) 26 ((((((w17.setCell ⟨gb121, 0, none⟩ (.int .i64 7)).setCell ⟨gb121, 1, none⟩ (.int .i64 1)).setCell ⟨gb121, 2, none⟩ (.int .i64 90)).setCell ⟨gb121, 3, none⟩ (.int .i64 30)).setCell ⟨gb121, 4, none⟩ (.int .i64 1)).setCell ⟨gb121, 5, none⟩ (.int .i64 2)) w.heap.size (fun _ => True) v102 y101) := ⟨by (with_reducible repeat (first | apply Kd.R_alloc | apply Kd.R_drewN | apply Kd.R_drew)); exact Kd.R_mono (Kd.R_far (p := ⟨gb121, 5, none⟩) (Kd.R_far (p := ⟨gb121, 4, none⟩) (Kd.R_far (p := ⟨gb121, 3, none⟩) (Kd.R_far (p := ⟨gb121, 2, none⟩) (Kd.R_far (p := ⟨gb121, 1, none⟩) (Kd.R_far (p := ⟨gb121, 0, none⟩) (Kd.R_types HO103.out BK121.out (by decide)) (fun _ hk => hk.2) (.int .i64 7)) (fun _ hk => hk.2) (.int .i64 1)) (fun _ hk => hk.2) (.int .i64 90)) (fun _ hk => hk.2) (.int .i64 30)) (fun _ hk => hk.2) (.int .i64 1)) (fun _ hk => hk.2) (.int .i64 2)) (fun _ hk => trivial)⟩
     have n1_ : Aside0 (((((((w17.setCell ⟨gb121, 0, none⟩ (.int .i64 7)).setCell ⟨gb121, 1, none⟩ (.int .i64 1)).setCell ⟨gb121, 2, none⟩ (.int .i64 90)).setCell ⟨gb121, 3, none⟩ (.int .i64 30)).setCell ⟨gb121, 4, none⟩ (.int .i64 1)).setCell ⟨gb121, 5, none⟩ (.int .i64 2)).heap[gb111]? = some (.cells #[.int .i64 t104, .int .i64 t105, .int .i64 t106, .int .i64 t107, .int .i64 t108, .int .i64 t109, .int .u64 t110] 28 (0, 0))) := ⟨bF BK111⟩
     have n2_ : Aside0 (((((((w17.setCell ⟨gb121, 0, none⟩ (.int .i64 7)).setCell ⟨gb121, 1, none⟩ (.int .i64 1)).setCell ⟨gb121, 2, none⟩ (.int .i64 90)).setCell ⟨gb121, 3, none⟩ (.int .i64 30)).setCell ⟨gb121, 4, none⟩ (.int .i64 1)).setCell ⟨gb121, 5, none⟩ (.int .i64 2)).heap[gb119]? = some (.cells #[.int .i64 t112, .int .i64 t113, .int .i64 t114, .int .i64 t115, .int .i64 t116, .int .i64 t117, .int .u64 t118] 28 (0, 0))) := ⟨bF BK119⟩
     have n3_ : Aside0 (((((((w17.setCell ⟨gb121, 0, none⟩ (.int .i64 7)).setCell ⟨gb121, 1, none⟩ (.int .i64 1)).setCell ⟨gb121, 2, none⟩ (.int .i64 90)).setCell ⟨gb121, 3, none⟩ (.int .i64 30)).setCell ⟨gb121, 4, none⟩ (.int .i64 1)).setCell ⟨gb121, 5, none⟩ (.int .i64 2)).heap[gb120]? = some (.cells #[.int .i64 t112, .int .i64 t113, .int .i64 t114, .int .i64 t115, .int .i64 t116, .int .i64 0, .int .u64 t118] 28 (0, 0))) := ⟨bF BK120⟩
     have n4_ : Aside0 (((((((w17.setCell ⟨gb121, 0, none⟩ (.int .i64 7)).setCell ⟨gb121, 1, none⟩ (.int .i64 1)).setCell ⟨gb121, 2, none⟩ (.int .i64 90)).setCell ⟨gb121, 3, none⟩ (.int .i64 30)).setCell ⟨gb121, 4, none⟩ (.int .i64 1)).setCell ⟨gb121, 5, none⟩ (.int .i64 2)).heap[gb121]? = some (.cells #[.int .i64 7, .int .i64 1, .int .i64 90, .int .i64 30, .int .i64 1, .int .i64 2] 40 (0, 0))) := ⟨by refine bM ?_; refine blk_put (cs := #[.int .i64 7, .int .i64 1, .int .i64 90, .int .i64 30, .int .i64 1, .int .i64 0]) ?_ 5 _ rfl; refine bM ?_; refine blk_put (cs := #[.int .i64 7, .int .i64 1, .int .i64 90, .int .i64 30, .int .i64 0, .int .i64 0]) ?_ 4 _ rfl; refine bM ?_; refine blk_put (cs := #[.int .i64 7, .int .i64 1, .int .i64 90, .int .i64 0, .int .i64 0, .int .i64 0]) ?_ 3 _ rfl; refine bM ?_; refine blk_put (cs := #[.int .i64 7, .int .i64 1, .int .i64 0, .int .i64 0, .int .i64 0, .int .i64 0]) ?_ 2 _ rfl; refine bM ?_; refine blk_put (cs := #[.int .i64 7, .int .i64 0, .int .i64 0, .int .i64 0, .int .i64 0, .int .i64 0]) ?_ 1 _ rfl; refine bM ?_; refine blk_put (cs := #[.int .i64 0, .int .i64 0, .int .i64 0, .int .i64 0, .int .i64 0, .int .i64 0]) ?_ 0 _ rfl; exact bD BK121⟩
     have n5_ : Aside0 (Below w.heap.size w ((((((w17.setCell ⟨gb121, 0, none⟩ (.int .i64 7)).setCell ⟨gb121, 1, none⟩ (.int .i64 1)).setCell ⟨gb121, 2, none⟩ (.int .i64 90)).setCell ⟨gb121, 3, none⟩ (.int .i64 30)).setCell ⟨gb121, 4, none⟩ (.int .i64 1)).setCell ⟨gb121, 5, none⟩ (.int .i64 2))) := ⟨sD HB⟩
     (try clear HO103); (try clear BK111); (try clear BK119); (try clear BK120); (try clear BK121); (try clear HB)
     generalize ((((((w17.setCell ⟨gb121, 0, none⟩ (.int .i64 7)).setCell ⟨gb121, 1, none⟩ (.int .i64 1)).setCell ⟨gb121, 2, none⟩ (.int .i64 90)).setCell ⟨gb121, 3, none⟩ (.int .i64 30)).setCell ⟨gb121, 4, none⟩ (.int .i64 1)).setCell ⟨gb121, 5, none⟩ (.int .i64 2)) = w72 at n0_ n1_ n2_ n3_ n4_ n5_ ⊢
     have HO103 := n0_; have BK111 := n1_; have BK119 := n2_; have BK120 := n3_; have BK121 := n4_; have HB := n5_; clear n0_ n1_ n2_ n3_ n4_ n5_; replace HO103 := aM (Kd.R_drew HO103.out); replace BK111 := aM (blk_drew BK111.out); replace BK119 := aM (blk_drew BK119.out); replace BK120 := aM (blk_drew BK120.out); replace BK121 := aM (blk_drew BK121.out); replace HB := aM (below_drew1 HB.out)
     obtain ⟨Ao74, co74, eo74⟩ := Kd.R_slice HO103.out
     (first | subst eo74 | (injection eo74 with f1_ f2_ f3_; have f4_ := f1_.symm; have f5_ := f3_.symm; clear f1_ f2_ f3_; subst f4_; subst f5_))
     refine start_ (n := 41) (S := fun w' => w'.cell? ⟨gb111, 0, none⟩ = some (.int .i64 t104) ∧ w'.cell? ⟨gb111, 1, none⟩ = some (.int .i64 t105) ∧ w'.cell? ⟨gb111, 2, none⟩ = some (.int .i64 t106) ∧ w'.cell? ⟨gb111, 3, none⟩ = some (.int .i64 t107) ∧ w'.cell? ⟨gb111, 4, none⟩ = some (.int .i64 t108) ∧ w'.cell? ⟨gb111, 5, none⟩ = some (.int .i64 t109) ∧ w'.cell? ⟨gb111, 6, none⟩ = some (.int .u64 t110) ∧ w'.cell? ⟨gb120, 0, none⟩ = some (.int .i64 t112) ∧ w'.cell? ⟨gb120, 1, none⟩ = some (.int .i64 t113) ∧ w'.cell? ⟨gb120, 2, none⟩ = some (.int .i64 t114) ∧ w'.cell? ⟨gb120, 3, none⟩ = some (.int .i64 t115) ∧ w'.cell? ⟨gb120, 4, none⟩ = some (.int .i64 t116) ∧ w'.cell? ⟨gb120, 5, none⟩ = some (.int .i64 0) ∧ w'.cell? ⟨gb120, 6, none⟩ = some (.int .u64 t118)) (ds := []) #[false, false, false, false, false, false, false, false, false, false, false, false, false, false, false, false, false, false, false, false, false, false, false, false, false, false, false, false, false, false, false, false, false, false, false, false, false, false, false, false, false] (by kernel_rfl) rfl rfl ⟨cE BK111 0, cE BK111 1, cE BK111 2, cE BK111 3, cE BK111 4, cE BK111 5, cE BK111 6, cE BK120 0, cE BK120 1, cE BK120 2, cE BK120 3, cE BK120 4, cE BK120 5, cE BK120 6⟩ (fun hHeld => ?_); refine with_tabW parolelaw32_examples0.tab7 parolelaw32_examples0.bits7 (fun HT_ HW_ => ?_)
     generalize w72.drew = w73 at HO103 BK111 BK119 BK120 BK121 HB hHeld ⊢
     refine pX (i := 0) (N := some 17) rfl rfl HT_ ?_
     refine tX (i := 1) (N := some 18) rfl rfl HT_ HW_ hHeld (Or.inl ⟨by rfl, by rintro w' ⟨s0, s1, s2, s3, s4, s5, s6, s7, s8, s9, s10, s11, s12, s13⟩; go_simp; with_reducible rfl⟩) ?_
     refine oX (i := 2) (N := some 19) rfl rfl HT_ (fun K hK => ?_)
     refine gS Try.func17 #[.slice Ao74 y101.length co74, .agg #[.int .i64 t104, .int .i64 t105, .int .i64 t106, .int .i64 t107, .int .i64 t108, .int .i64 t109, .int .u64 t110]] ?_
     with_reducible refine (field_Right.calls k _ _ y101 t104 t105 t106 t107 t108 t109 t110 t122 _ ?side1 ?side2 A22.out).mono ?_
     (case side1 => exact rC HO103)
     (case side2 => exact rN HO103)
     rintro e w75 ⟨rfl, hb⟩
     refine ⟨_, rfl, ?_⟩
     replace HO103 := rB HO103 hb; replace BK111 := bB BK111 hb; replace BK119 := bB BK119 hb; replace BK120 := bB BK120 hb; replace BK121 := bB BK121 hb; replace HB := sB HB hb; (try clear hb); (try clear hb2); (try clear hk); (try clear hi)
     refine hK.out _ _ ⟨cE BK111 0, cE BK111 1, cE BK111 2, cE BK111 3, cE BK111 4, cE BK111 5, cE BK111 6, cE BK120 0, cE BK120 1, cE BK120 2, cE BK120 3, cE BK120 4, cE BK120 5, cE BK120 6⟩ (fun hHeld => ?_)
     clear hK K
     refine nX (some 19) ?_
     refine pX (i := 3) (N := some 20) rfl rfl HT_ ?_
     refine pX (i := 4) (N := some 21) rfl rfl HT_ ?_
     refine pX (i := 5) (N := some 22) rfl rfl HT_ ?_
     refine tX (i := 6) (N := some 23) rfl rfl HT_ HW_ hHeld (Or.inl ⟨by rfl, by rintro w' ⟨s0, s1, s2, s3, s4, s5, s6, s7, s8, s9, s10, s11, s12, s13⟩; go_simp; with_reducible rfl⟩) ?_
     refine oX (i := 7) (N := some 24) rfl rfl HT_ (fun K hK => ?_)
     refine gS Try.func17 #[.slice Ao74 y101.length co74, .agg #[.int .i64 t112, .int .i64 t113, .int .i64 t114, .int .i64 t115, .int .i64 t116, .int .i64 0, .int .u64 t118]] ?_
     with_reducible refine (field_Right.calls k _ _ y101 t112 t113 t114 t115 t116 0 t118 t123 _ ?side1 ?side2 A24.out).mono ?_
     (case side1 => exact rC HO103)
     (case side2 => exact rN HO103)
     rintro e w76 ⟨rfl, hb⟩
     refine ⟨_, rfl, ?_⟩
     replace HO103 := rB HO103 hb; replace BK111 := bB BK111 hb; replace BK119 := bB BK119 hb; replace BK120 := bB BK120 hb; replace BK121 := bB BK121 hb; replace HB := sB HB hb; (try clear hb); (try clear hb2); (try clear hk); (try clear hi)
     refine hK.out _ _ ⟨cE BK111 0, cE BK111 1, cE BK111 2, cE BK111 3, cE BK111 4, cE BK111 5, cE BK111 6, cE BK120 0, cE BK120 1, cE BK120 2, cE BK120 3, cE BK120 4, cE BK120 5, cE BK120 6⟩ (fun hHeld => ?_)
     clear hK K
     refine nX (some 24) ?_
     refine pX (i := 8) (N := some 25) rfl rfl HT_ ?_
     refine pX (i := 9) (N := some 26) rfl rfl HT_ ?_
     refine pX (i := 10) (N := some 27) rfl rfl HT_ ?_
     refine tX (i := 11) (N := some 28) rfl rfl HT_ HW_ hHeld (Or.inl ⟨by rfl, by rintro w' ⟨s0, s1, s2, s3, s4, s5, s6, s7, s8, s9, s10, s11, s12, s13⟩; go_simp; with_reducible rfl⟩) ?_
     refine oX (i := 12) (N := some 29) rfl rfl HT_ (fun K hK => ?_)
     refine gS Try.func17 #[.slice none 0 0, .agg #[.int .i64 t104, .int .i64 t105, .int .i64 t106, .int .i64 t107, .int .i64 t108, .int .i64 t109, .int .u64 t110]] ?_
     refine (field_Right.calls k _ _ ([] : List Int) t104 t105 t106 t107 t108 t109 t110 t124 _ ?side1 ?side2 A26.out).mono ?_
     (case side1 => exact Kd.C_nil _ _)
     (case side2 => exact Nat.le_refl _)
     rintro e w77 ⟨rfl, hb⟩
     refine ⟨_, rfl, ?_⟩
     replace HO103 := rB HO103 hb; replace BK111 := bB BK111 hb; replace BK119 := bB BK119 hb; replace BK120 := bB BK120 hb; replace BK121 := bB BK121 hb; replace HB := sB HB hb; (try clear hb); (try clear hb2); (try clear hk); (try clear hi)
     refine hK.out _ _ ⟨cE BK111 0, cE BK111 1, cE BK111 2, cE BK111 3, cE BK111 4, cE BK111 5, cE BK111 6, cE BK120 0, cE BK120 1, cE BK120 2, cE BK120 3, cE BK120 4, cE BK120 5, cE BK120 6⟩ (fun hHeld => ?_)
     clear hK K
     refine nX (some 29) ?_
     refine pX (i := 13) (N := some 30) rfl rfl HT_ ?_
     refine pX (i := 14) (N := some 31) rfl rfl HT_ ?_
     refine pX (i := 15) (N := some 32) rfl rfl HT_ ?_
     refine pU (i := 16) (N := some 33) rfl rfl HT_ ?_
     refine pU (i := 17) (N := some 34) rfl rfl HT_ ?_
     refine pU (i := 18) (N := some 35) rfl rfl HT_ ?_
     refine pU (i := 19) (N := some 36) rfl rfl HT_ ?_
     refine pU (i := 20) (N := some 37) rfl rfl HT_ ?_
     refine pU (i := 21) (N := some 38) rfl rfl HT_ ?_
     refine pU (i := 22) (N := some 39) rfl rfl HT_ ?_
     refine pU (i := 23) (N := some 40) rfl rfl HT_ ?_
     refine pU (i := 24) (N := some 41) rfl rfl HT_ ?_
     refine pX (i := 25) (N := some 42) rfl rfl HT_ ?_
     refine pX (i := 26) (N := some 43) rfl rfl HT_ ?_
     refine pU (i := 27) (N := some 44) rfl rfl HT_ ?_
     refine pU (i := 28) (N := some 45) rfl rfl HT_ ?_
     refine pU (i := 29) (N := some 46) rfl rfl HT_ ?_
     refine pU (i := 30) (N := some 47) rfl rfl HT_ ?_
     refine pU (i := 31) (N := some 48) rfl rfl HT_ ?_
     refine pU (i := 32) (N := some 49) rfl rfl HT_ ?_
     refine pX (i := 33) (N := some 50) rfl rfl HT_ ?_
     refine pX (i := 34) (N := some 51) rfl rfl HT_ ?_
     refine pU (i := 35) (N := some 52) rfl rfl HT_ ?_
     refine pU (i := 36) (N := some 53) rfl rfl HT_ ?_
     refine pU (i := 37) (N := some 54) rfl rfl HT_ ?_
     refine pU (i := 38) (N := some 55) rfl rfl HT_ ?_
     refine pU (i := 39) (N := some 56) rfl rfl HT_ ?_
     refine pX (i := 40) (N := some 57) rfl rfl HT_ ?_
     refine done_ (done_of HT_.out (by kernel_rfl)) ?_
     try go_wp2
     go_meet
     case rel => exact ⟨_, (true), (by first | rfl | (simp; done) | (simp [*]; done)), H', ⟨by first | omega | exact Nat.le_refl _⟩, ⟨by exact bD BK111⟩, ⟨by exact bD BK119⟩, ⟨by exact bD BK120⟩, ⟨by exact bD BK121⟩, ⟨sD HB⟩⟩
   ·rw [if_neg c25] at H
    have c25b0 : (t123 == 320) = false := beq_eq_false_iff_ne.mpr c25
    have c25b1 : (t123 != 320) = true := bne_iff_ne.mpr c25
    have H' := aM H; clear H
    try go_wp2
    have n0_ : Aside0 (Kd.R (Kd.int .u64) 26 ((((((w17.setCell ⟨gb121, 0, none⟩ (.int .i64 7)).setCell ⟨gb121, 1, none⟩ (.int .i64 1)).setCell ⟨gb121, 2, none⟩ (.int .i64 90)).setCell ⟨gb121, 3, none⟩ (.int .i64 30)).setCell ⟨gb121, 4, none⟩ (.int .i64 1)).setCell ⟨gb121, 5, none⟩ (.int .i64 2)) w.heap.size (fun _ => True) v102 y101) := ⟨by (with_reducible repeat (first | apply Kd.R_alloc | apply Kd.R_drewN | apply Kd.R_drew)); exact Kd.R_mono (Kd.R_far (p := ⟨gb121, 5, none⟩) (Kd.R_far (p := ⟨gb121, 4, none⟩) (Kd.R_far (p := ⟨gb121, 3, none⟩) (Kd.R_far (p := ⟨gb121, 2, none⟩) (Kd.R_far (p := ⟨gb121, 1, none⟩) (Kd.R_far (p := ⟨gb121, 0, none⟩) (Kd.R_types HO103.out BK121.out (by decide)) (fun _ hk => hk.2) (.int .i64 7)) (fun _ hk => hk.2) (.int .i64 1)) (fun _ hk => hk.2) (.int .i64 90)) (fun _ hk => hk.2) (.int .i64 30)) (fun _ hk => hk.2) (.int .i64 1)) (fun _ hk => hk.2) (.int .i64 2)) (fun _ hk => trivial)⟩
    have n1_ : Aside0 (((((((w17.setCell ⟨gb121, 0, none⟩ (.int .i64 7)).setCell ⟨gb121, 1, none⟩ (.int .i64 1)).setCell ⟨gb121, 2, none⟩ (.int .i64 90)).setCell ⟨gb121, 3, none⟩ (.int .i64 30)).setCell ⟨gb121, 4, none⟩ (.int .i64 1)).setCell ⟨gb121, 5, none⟩ (.int .i64 2)).heap[gb111]? = some (.cells #[.int .i64 t104, .int .i64 t105, .int .i64 t106, .int .i64 t107, .int .i64 t108, .int .i64 t109, .int .u64 t110] 28 (0, 0))) := ⟨bF BK111⟩
    have n2_ : Aside0 (((((((w17.setCell ⟨gb121, 0, none⟩ (.int .i64 7)).setCell ⟨gb121, 1, none⟩ (.int .i64 1)).setCell ⟨gb121, 2, none⟩ (.int .i64 90)).setCell ⟨gb121, 3, none⟩ (.int .i64 30)).setCell ⟨gb121, 4, none⟩ (.int .i64 1)).setCell ⟨gb121, 5, none⟩ (.int .i64 2)).heap[gb119]? = some (.cells #[.int .i64 t112, .int .i64 t113, .int .i64 t114, .int .i64 t115, .int .i64 t116, .int .i64 t117, .int .u64 t118] 28 (0, 0))) := ⟨bF BK119⟩
    have n3_ : Aside0 (((((((w17.setCell ⟨gb121, 0, none⟩ (.int .i64 7)).setCell ⟨gb121, 1, none⟩ (.int .i64 1)).setCell ⟨gb121, 2, none⟩ (.int .i64 90)).setCell ⟨gb121, 3, none⟩ (.int .i64 30)).setCell ⟨gb121, 4, none⟩ (.int .i64 1)).setCell ⟨gb121, 5, none⟩ (.int .i64 2)).heap[gb120]? = some (.cells #[.int .i64 t112, .int .i64 t113, .int .i64 t114, .int .i64 t115, .int .i64 t116, .int .i64 0, .int .u64 t118] 28 (0, 0))) := ⟨bF BK120⟩
    have n4_ : Aside0 (((((((w17.setCell ⟨gb121, 0, none⟩ (.int .i64 7)).setCell ⟨gb121, 1, none⟩ (.int .i64 1)).setCell ⟨gb121, 2, none⟩ (.int .i64 90)).setCell ⟨gb121, 3, none⟩ (.int .i64 30)).setCell ⟨gb121, 4, none⟩ (.int .i64 1)).setCell ⟨gb121, 5, none⟩ (.int .i64 2)).heap[gb121]? = some (.cells #[.int .i64 7, .int .i64 1, .int .i64 90, .int .i64 30, .int .i64 1, .int .i64 2] 40 (0, 0))) := ⟨by refine bM ?_; refine blk_put (cs := #[.int .i64 7, .int .i64 1, .int .i64 90, .int .i64 30, .int .i64 1, .int .i64 0]) ?_ 5 _ rfl; refine bM ?_; refine blk_put (cs := #[.int .i64 7, .int .i64 1, .int .i64 90, .int .i64 30, .int .i64 0, .int .i64 0]) ?_ 4 _ rfl; refine bM ?_; refine blk_put (cs := #[.int .i64 7, .int .i64 1, .int .i64 90, .int .i64 0, .int .i64 0, .int .i64 0]) ?_ 3 _ rfl; refine bM ?_; refine blk_put (cs := #[.int .i64 7, .int .i64 1, .int .i64 0, .int .i64 0, .int .i64 0, .int .i64 0]) ?_ 2 _ rfl; refine bM ?_; refine blk_put (cs := #[.int .i64 7, .int .i64 0, .int .i64 0, .int .i64 0, .int .i64 0, .int .i64 0]) ?_ 1 _ rfl; refine bM ?_; refine blk_put (cs := #[.int .i64 0, .int .i64 0, .int .i64 0, .int .i64 0, .int .i64 0, .int .i64 0]) ?_ 0 _ rfl; exact bD BK121⟩
    have n5_ : Aside0 (Below w.heap.size w ((((((w17.setCell ⟨gb121, 0, none⟩ (.int .i64 7)).setCell ⟨gb121, 1, none⟩ (.int .i64 1)).setCell ⟨gb121, 2, none⟩ (.int .i64 90)).setCell ⟨gb121, 3, none⟩ (.int .i64 30)).setCell ⟨gb121, 4, none⟩ (.int .i64 1)).setCell ⟨gb121, 5, none⟩ (.int .i64 2))) := ⟨sD HB⟩
    (try clear HO103); (try clear BK111); (try clear BK119); (try clear BK120); (try clear BK121); (try clear HB)
    generalize ((((((w17.setCell ⟨gb121, 0, none⟩ (.int .i64 7)).setCell ⟨gb121, 1, none⟩ (.int .i64 1)).setCell ⟨gb121, 2, none⟩ (.int .i64 90)).setCell ⟨gb121, 3, none⟩ (.int .i64 30)).setCell ⟨gb121, 4, none⟩ (.int .i64 1)).setCell ⟨gb121, 5, none⟩ (.int .i64 2)) = w78 at n0_ n1_ n2_ n3_ n4_ n5_ ⊢
    have HO103 := n0_; have BK111 := n1_; have BK119 := n2_; have BK120 := n3_; have BK121 := n4_; have HB := n5_; clear n0_ n1_ n2_ n3_ n4_ n5_; replace HO103 := aM (Kd.R_drew HO103.out); replace BK111 := aM (blk_drew BK111.out); replace BK119 := aM (blk_drew BK119.out); replace BK120 := aM (blk_drew BK120.out); replace BK121 := aM (blk_drew BK121.out); replace HB := aM (below_drew1 HB.out)
    obtain ⟨Ao80, co80, eo80⟩ := Kd.R_slice HO103.out
    (first | subst eo80 | (injection eo80 with f1_ f2_ f3_; have f4_ := f1_.symm; have f5_ := f3_.symm; clear f1_ f2_ f3_; subst f4_; subst f5_))
    refine start_ (n := 41) (S := fun w' => w'.cell? ⟨gb111, 0, none⟩ = some (.int .i64 t104) ∧ w'.cell? ⟨gb111, 1, none⟩ = some (.int .i64 t105) ∧ w'.cell? ⟨gb111, 2, none⟩ = some (.int .i64 t106) ∧ w'.cell? ⟨gb111, 3, none⟩ = some (.int .i64 t107) ∧ w'.cell? ⟨gb111, 4, none⟩ = some (.int .i64 t108) ∧ w'.cell? ⟨gb111, 5, none⟩ = some (.int .i64 t109) ∧ w'.cell? ⟨gb111, 6, none⟩ = some (.int .u64 t110) ∧ w'.cell? ⟨gb120, 0, none⟩ = some (.int .i64 t112) ∧ w'.cell? ⟨gb120, 1, none⟩ = some (.int .i64 t113) ∧ w'.cell? ⟨gb120, 2, none⟩ = some (.int .i64 t114) ∧ w'.cell? ⟨gb120, 3, none⟩ = some (.int .i64 t115) ∧ w'.cell? ⟨gb120, 4, none⟩ = some (.int .i64 t116) ∧ w'.cell? ⟨gb120, 5, none⟩ = some (.int .i64 0) ∧ w'.cell? ⟨gb120, 6, none⟩ = some (.int .u64 t118)) (ds := []) #[false, false, false, false, false, false, false, false, false, false, false, false, false, false, false, false, false, false, false, false, false, false, false, false, false, false, false, false, false, false, false, false, false, false, false, false, false, false, false, false, false] (by kernel_rfl) rfl rfl ⟨cE BK111 0, cE BK111 1, cE BK111 2, cE BK111 3, cE BK111 4, cE BK111 5, cE BK111 6, cE BK120 0, cE BK120 1, cE BK120 2, cE BK120 3, cE BK120 4, cE BK120 5, cE BK120 6⟩ (fun hHeld => ?_); refine with_tabW parolelaw32_examples0.tab7 parolelaw32_examples0.bits7 (fun HT_ HW_ => ?_)
    generalize w78.drew = w79 at HO103 BK111 BK119 BK120 BK121 HB hHeld ⊢
    refine pX (i := 0) (N := some 17) rfl rfl HT_ ?_
    refine tX (i := 1) (N := some 18) rfl rfl HT_ HW_ hHeld (Or.inl ⟨by rfl, by rintro w' ⟨s0, s1, s2, s3, s4, s5, s6, s7, s8, s9, s10, s11, s12, s13⟩; go_simp; with_reducible rfl⟩) ?_
    refine oX (i := 2) (N := some 19) rfl rfl HT_ (fun K hK => ?_)
    refine gS Try.func17 #[.slice Ao80 y101.length co80, .agg #[.int .i64 t104, .int .i64 t105, .int .i64 t106, .int .i64 t107, .int .i64 t108, .int .i64 t109, .int .u64 t110]] ?_
    with_reducible refine (field_Right.calls k _ _ y101 t104 t105 t106 t107 t108 t109 t110 t122 _ ?side1 ?side2 A22.out).mono ?_
    (case side1 => exact rC HO103)
    (case side2 => exact rN HO103)
    rintro e w81 ⟨rfl, hb⟩
    refine ⟨_, rfl, ?_⟩
    replace HO103 := rB HO103 hb; replace BK111 := bB BK111 hb; replace BK119 := bB BK119 hb; replace BK120 := bB BK120 hb; replace BK121 := bB BK121 hb; replace HB := sB HB hb; (try clear hb); (try clear hb2); (try clear hk); (try clear hi)
    refine hK.out _ _ ⟨cE BK111 0, cE BK111 1, cE BK111 2, cE BK111 3, cE BK111 4, cE BK111 5, cE BK111 6, cE BK120 0, cE BK120 1, cE BK120 2, cE BK120 3, cE BK120 4, cE BK120 5, cE BK120 6⟩ (fun hHeld => ?_)
    clear hK K
    refine nX (some 19) ?_
    refine pX (i := 3) (N := some 20) rfl rfl HT_ ?_
    refine pX (i := 4) (N := some 21) rfl rfl HT_ ?_
    refine pX (i := 5) (N := some 22) rfl rfl HT_ ?_
    refine tX (i := 6) (N := some 23) rfl rfl HT_ HW_ hHeld (Or.inl ⟨by rfl, by rintro w' ⟨s0, s1, s2, s3, s4, s5, s6, s7, s8, s9, s10, s11, s12, s13⟩; go_simp; with_reducible rfl⟩) ?_
    refine oX (i := 7) (N := some 24) rfl rfl HT_ (fun K hK => ?_)
    refine gS Try.func17 #[.slice Ao80 y101.length co80, .agg #[.int .i64 t112, .int .i64 t113, .int .i64 t114, .int .i64 t115, .int .i64 t116, .int .i64 0, .int .u64 t118]] ?_
    with_reducible refine (field_Right.calls k _ _ y101 t112 t113 t114 t115 t116 0 t118 t123 _ ?side1 ?side2 A24.out).mono ?_
    (case side1 => exact rC HO103)
    (case side2 => exact rN HO103)
    rintro e w82 ⟨rfl, hb⟩
    refine ⟨_, rfl, ?_⟩
    replace HO103 := rB HO103 hb; replace BK111 := bB BK111 hb; replace BK119 := bB BK119 hb; replace BK120 := bB BK120 hb; replace BK121 := bB BK121 hb; replace HB := sB HB hb; (try clear hb); (try clear hb2); (try clear hk); (try clear hi)
    refine hK.out _ _ ⟨cE BK111 0, cE BK111 1, cE BK111 2, cE BK111 3, cE BK111 4, cE BK111 5, cE BK111 6, cE BK120 0, cE BK120 1, cE BK120 2, cE BK120 3, cE BK120 4, cE BK120 5, cE BK120 6⟩ (fun hHeld => ?_)
    clear hK K
    refine nX (some 24) ?_
    refine pX (i := 8) (N := some 25) rfl rfl HT_ ?_
    refine pX (i := 9) (N := some 26) rfl rfl HT_ ?_
    refine pX (i := 10) (N := some 27) rfl rfl HT_ ?_
    refine pU (i := 11) (N := some 28) rfl rfl HT_ ?_
    refine pU (i := 12) (N := some 29) rfl rfl HT_ ?_
    refine pU (i := 13) (N := some 30) rfl rfl HT_ ?_
    refine pX (i := 14) (N := some 31) rfl rfl HT_ ?_
    refine pX (i := 15) (N := some 32) rfl rfl HT_ ?_
    refine pU (i := 16) (N := some 33) rfl rfl HT_ ?_
    refine pU (i := 17) (N := some 34) rfl rfl HT_ ?_
    refine pU (i := 18) (N := some 35) rfl rfl HT_ ?_
    refine pU (i := 19) (N := some 36) rfl rfl HT_ ?_
    refine pU (i := 20) (N := some 37) rfl rfl HT_ ?_
    refine pU (i := 21) (N := some 38) rfl rfl HT_ ?_
    refine pU (i := 22) (N := some 39) rfl rfl HT_ ?_
    refine pU (i := 23) (N := some 40) rfl rfl HT_ ?_
    refine pU (i := 24) (N := some 41) rfl rfl HT_ ?_
    refine pX (i := 25) (N := some 42) rfl rfl HT_ ?_
    refine pX (i := 26) (N := some 43) rfl rfl HT_ ?_
    refine pU (i := 27) (N := some 44) rfl rfl HT_ ?_
    refine pU (i := 28) (N := some 45) rfl rfl HT_ ?_
    refine pU (i := 29) (N := some 46) rfl rfl HT_ ?_
    refine pU (i := 30) (N := some 47) rfl rfl HT_ ?_
    refine pU (i := 31) (N := some 48) rfl rfl HT_ ?_
    refine pU (i := 32) (N := some 49) rfl rfl HT_ ?_
    refine pX (i := 33) (N := some 50) rfl rfl HT_ ?_
    refine pX (i := 34) (N := some 51) rfl rfl HT_ ?_
    refine pU (i := 35) (N := some 52) rfl rfl HT_ ?_
    refine pU (i := 36) (N := some 53) rfl rfl HT_ ?_
    refine pU (i := 37) (N := some 54) rfl rfl HT_ ?_
    refine pU (i := 38) (N := some 55) rfl rfl HT_ ?_
    refine pU (i := 39) (N := some 56) rfl rfl HT_ ?_
    refine pX (i := 40) (N := some 57) rfl rfl HT_ ?_
    refine done_ (done_of HT_.out (by kernel_rfl)) ?_
    try go_wp2
    go_meet
    case rel => exact ⟨_, (true), (by first | rfl | (simp; done) | (simp [*]; done)), H', ⟨by first | omega | exact Nat.le_refl _⟩, ⟨by exact bD BK111⟩, ⟨by exact bD BK119⟩, ⟨by exact bD BK120⟩, ⟨by exact bD BK121⟩, ⟨sD HB⟩⟩
  ·rw [if_neg c23] at H
   have c23b0 : (t122 == 0) = false := beq_eq_false_iff_ne.mpr c23
   have c23b1 : (t122 != 0) = true := bne_iff_ne.mpr c23
   (first | rw [c23b0] | (simp only [i64_w, i32_w]; rw [c23b0]) | skip)
   have H' := aM H; clear H
   try go_wp2
   have n0_ : Aside0 (Kd.R (Kd.int .u64) 26 ((((((w17.setCell ⟨gb121, 0, none⟩ (.int .i64 7)).setCell ⟨gb121, 1, none⟩ (.int .i64 1)).setCell ⟨gb121, 2, none⟩ (.int .i64 90)).setCell ⟨gb121, 3, none⟩ (.int .i64 30)).setCell ⟨gb121, 4, none⟩ (.int .i64 1)).setCell ⟨gb121, 5, none⟩ (.int .i64 2)) w.heap.size (fun _ => True) v102 y101) := ⟨by (with_reducible repeat (first | apply Kd.R_alloc | apply Kd.R_drewN | apply Kd.R_drew)); exact Kd.R_mono (Kd.R_far (p := ⟨gb121, 5, none⟩) (Kd.R_far (p := ⟨gb121, 4, none⟩) (Kd.R_far (p := ⟨gb121, 3, none⟩) (Kd.R_far (p := ⟨gb121, 2, none⟩) (Kd.R_far (p := ⟨gb121, 1, none⟩) (Kd.R_far (p := ⟨gb121, 0, none⟩) (Kd.R_types HO103.out BK121.out (by decide)) (fun _ hk => hk.2) (.int .i64 7)) (fun _ hk => hk.2) (.int .i64 1)) (fun _ hk => hk.2) (.int .i64 90)) (fun _ hk => hk.2) (.int .i64 30)) (fun _ hk => hk.2) (.int .i64 1)) (fun _ hk => hk.2) (.int .i64 2)) (fun _ hk => trivial)⟩
   have n1_ : Aside0 (((((((w17.setCell ⟨gb121, 0, none⟩ (.int .i64 7)).setCell ⟨gb121, 1, none⟩ (.int .i64 1)).setCell ⟨gb121, 2, none⟩ (.int .i64 90)).setCell ⟨gb121, 3, none⟩ (.int .i64 30)).setCell ⟨gb121, 4, none⟩ (.int .i64 1)).setCell ⟨gb121, 5, none⟩ (.int .i64 2)).heap[gb111]? = some (.cells #[.int .i64 t104, .int .i64 t105, .int .i64 t106, .int .i64 t107, .int .i64 t108, .int .i64 t109, .int .u64 t110] 28 (0, 0))) := ⟨bF BK111⟩
   have n2_ : Aside0 (((((((w17.setCell ⟨gb121, 0, none⟩ (.int .i64 7)).setCell ⟨gb121, 1, none⟩ (.int .i64 1)).setCell ⟨gb121, 2, none⟩ (.int .i64 90)).setCell ⟨gb121, 3, none⟩ (.int .i64 30)).setCell ⟨gb121, 4, none⟩ (.int .i64 1)).setCell ⟨gb121, 5, none⟩ (.int .i64 2)).heap[gb119]? = some (.cells #[.int .i64 t112, .int .i64 t113, .int .i64 t114, .int .i64 t115, .int .i64 t116, .int .i64 t117, .int .u64 t118] 28 (0, 0))) := ⟨bF BK119⟩
   have n3_ : Aside0 (((((((w17.setCell ⟨gb121, 0, none⟩ (.int .i64 7)).setCell ⟨gb121, 1, none⟩ (.int .i64 1)).setCell ⟨gb121, 2, none⟩ (.int .i64 90)).setCell ⟨gb121, 3, none⟩ (.int .i64 30)).setCell ⟨gb121, 4, none⟩ (.int .i64 1)).setCell ⟨gb121, 5, none⟩ (.int .i64 2)).heap[gb120]? = some (.cells #[.int .i64 t112, .int .i64 t113, .int .i64 t114, .int .i64 t115, .int .i64 t116, .int .i64 0, .int .u64 t118] 28 (0, 0))) := ⟨bF BK120⟩
   have n4_ : Aside0 (((((((w17.setCell ⟨gb121, 0, none⟩ (.int .i64 7)).setCell ⟨gb121, 1, none⟩ (.int .i64 1)).setCell ⟨gb121, 2, none⟩ (.int .i64 90)).setCell ⟨gb121, 3, none⟩ (.int .i64 30)).setCell ⟨gb121, 4, none⟩ (.int .i64 1)).setCell ⟨gb121, 5, none⟩ (.int .i64 2)).heap[gb121]? = some (.cells #[.int .i64 7, .int .i64 1, .int .i64 90, .int .i64 30, .int .i64 1, .int .i64 2] 40 (0, 0))) := ⟨by refine bM ?_; refine blk_put (cs := #[.int .i64 7, .int .i64 1, .int .i64 90, .int .i64 30, .int .i64 1, .int .i64 0]) ?_ 5 _ rfl; refine bM ?_; refine blk_put (cs := #[.int .i64 7, .int .i64 1, .int .i64 90, .int .i64 30, .int .i64 0, .int .i64 0]) ?_ 4 _ rfl; refine bM ?_; refine blk_put (cs := #[.int .i64 7, .int .i64 1, .int .i64 90, .int .i64 0, .int .i64 0, .int .i64 0]) ?_ 3 _ rfl; refine bM ?_; refine blk_put (cs := #[.int .i64 7, .int .i64 1, .int .i64 0, .int .i64 0, .int .i64 0, .int .i64 0]) ?_ 2 _ rfl; refine bM ?_; refine blk_put (cs := #[.int .i64 7, .int .i64 0, .int .i64 0, .int .i64 0, .int .i64 0, .int .i64 0]) ?_ 1 _ rfl; refine bM ?_; refine blk_put (cs := #[.int .i64 0, .int .i64 0, .int .i64 0, .int .i64 0, .int .i64 0, .int .i64 0]) ?_ 0 _ rfl; exact bD BK121⟩
   have n5_ : Aside0 (Below w.heap.size w ((((((w17.setCell ⟨gb121, 0, none⟩ (.int .i64 7)).setCell ⟨gb121, 1, none⟩ (.int .i64 1)).setCell ⟨gb121, 2, none⟩ (.int .i64 90)).setCell ⟨gb121, 3, none⟩ (.int .i64 30)).setCell ⟨gb121, 4, none⟩ (.int .i64 1)).setCell ⟨gb121, 5, none⟩ (.int .i64 2))) := ⟨sD HB⟩
   (try clear HO103); (try clear BK111); (try clear BK119); (try clear BK120); (try clear BK121); (try clear HB)
   generalize ((((((w17.setCell ⟨gb121, 0, none⟩ (.int .i64 7)).setCell ⟨gb121, 1, none⟩ (.int .i64 1)).setCell ⟨gb121, 2, none⟩ (.int .i64 90)).setCell ⟨gb121, 3, none⟩ (.int .i64 30)).setCell ⟨gb121, 4, none⟩ (.int .i64 1)).setCell ⟨gb121, 5, none⟩ (.int .i64 2)) = w83 at n0_ n1_ n2_ n3_ n4_ n5_ ⊢
   have HO103 := n0_; have BK111 := n1_; have BK119 := n2_; have BK120 := n3_; have BK121 := n4_; have HB := n5_; clear n0_ n1_ n2_ n3_ n4_ n5_; replace HO103 := aM (Kd.R_drew HO103.out); replace BK111 := aM (blk_drew BK111.out); replace BK119 := aM (blk_drew BK119.out); replace BK120 := aM (blk_drew BK120.out); replace BK121 := aM (blk_drew BK121.out); replace HB := aM (below_drew1 HB.out)
   obtain ⟨Ao85, co85, eo85⟩ := Kd.R_slice HO103.out
   (first | subst eo85 | (injection eo85 with f1_ f2_ f3_; have f4_ := f1_.symm; have f5_ := f3_.symm; clear f1_ f2_ f3_; subst f4_; subst f5_))
   refine start_ (n := 41) (S := fun w' => w'.cell? ⟨gb111, 0, none⟩ = some (.int .i64 t104) ∧ w'.cell? ⟨gb111, 1, none⟩ = some (.int .i64 t105) ∧ w'.cell? ⟨gb111, 2, none⟩ = some (.int .i64 t106) ∧ w'.cell? ⟨gb111, 3, none⟩ = some (.int .i64 t107) ∧ w'.cell? ⟨gb111, 4, none⟩ = some (.int .i64 t108) ∧ w'.cell? ⟨gb111, 5, none⟩ = some (.int .i64 t109) ∧ w'.cell? ⟨gb111, 6, none⟩ = some (.int .u64 t110)) (ds := []) #[false, false, false, false, false, false, false, false, false, false, false, false, false, false, false, false, false, false, false, false, false, false, false, false, false, false, false, false, false, false, false, false, false, false, false, false, false, false, false, false, false] (by kernel_rfl) rfl rfl ⟨cE BK111 0, cE BK111 1, cE BK111 2, cE BK111 3, cE BK111 4, cE BK111 5, cE BK111 6⟩ (fun hHeld => ?_); refine with_tabW parolelaw32_examples0.tab7 parolelaw32_examples0.bits7 (fun HT_ HW_ => ?_)
   generalize w83.drew = w84 at HO103 BK111 BK119 BK120 BK121 HB hHeld ⊢
   refine pX (i := 0) (N := some 17) rfl rfl HT_ ?_
   refine tX (i := 1) (N := some 18) rfl rfl HT_ HW_ hHeld (Or.inl ⟨by rfl, by rintro w' ⟨s0, s1, s2, s3, s4, s5, s6⟩; go_simp; with_reducible rfl⟩) ?_
   refine oX (i := 2) (N := some 19) rfl rfl HT_ (fun K hK => ?_)
   refine gS Try.func17 #[.slice Ao85 y101.length co85, .agg #[.int .i64 t104, .int .i64 t105, .int .i64 t106, .int .i64 t107, .int .i64 t108, .int .i64 t109, .int .u64 t110]] ?_
   with_reducible refine (field_Right.calls k _ _ y101 t104 t105 t106 t107 t108 t109 t110 t122 _ ?side1 ?side2 A22.out).mono ?_
   (case side1 => exact rC HO103)
   (case side2 => exact rN HO103)
   rintro e w86 ⟨rfl, hb⟩
   refine ⟨_, rfl, ?_⟩
   replace HO103 := rB HO103 hb; replace BK111 := bB BK111 hb; replace BK119 := bB BK119 hb; replace BK120 := bB BK120 hb; replace BK121 := bB BK121 hb; replace HB := sB HB hb; (try clear hb); (try clear hb2); (try clear hk); (try clear hi)
   refine hK.out _ _ ⟨cE BK111 0, cE BK111 1, cE BK111 2, cE BK111 3, cE BK111 4, cE BK111 5, cE BK111 6⟩ (fun hHeld => ?_)
   clear hK K
   refine nX (some 19) ?_
   refine pX (i := 3) (N := some 20) rfl rfl HT_ ?_
   refine pX (i := 4) (N := some 21) rfl rfl HT_ ?_
   refine pU (i := 5) (N := some 22) rfl rfl HT_ ?_
   refine pU (i := 6) (N := some 23) rfl rfl HT_ ?_
   refine pU (i := 7) (N := some 24) rfl rfl HT_ ?_
   refine pU (i := 8) (N := some 25) rfl rfl HT_ ?_
   refine pX (i := 9) (N := some 26) rfl rfl HT_ ?_
   refine pX (i := 10) (N := some 27) rfl rfl HT_ ?_
   refine pU (i := 11) (N := some 28) rfl rfl HT_ ?_
   refine pU (i := 12) (N := some 29) rfl rfl HT_ ?_
   refine pU (i := 13) (N := some 30) rfl rfl HT_ ?_
   refine pX (i := 14) (N := some 31) rfl rfl HT_ ?_
   refine pX (i := 15) (N := some 32) rfl rfl HT_ ?_
   refine pU (i := 16) (N := some 33) rfl rfl HT_ ?_
   refine pU (i := 17) (N := some 34) rfl rfl HT_ ?_
   refine pU (i := 18) (N := some 35) rfl rfl HT_ ?_
   refine pU (i := 19) (N := some 36) rfl rfl HT_ ?_
   refine pU (i := 20) (N := some 37) rfl rfl HT_ ?_
   refine pU (i := 21) (N := some 38) rfl rfl HT_ ?_
   refine pU (i := 22) (N := some 39) rfl rfl HT_ ?_
   refine pU (i := 23) (N := some 40) rfl rfl HT_ ?_
   refine pU (i := 24) (N := some 41) rfl rfl HT_ ?_
   refine pX (i := 25) (N := some 42) rfl rfl HT_ ?_
   refine pX (i := 26) (N := some 43) rfl rfl HT_ ?_
   refine pU (i := 27) (N := some 44) rfl rfl HT_ ?_
   refine pU (i := 28) (N := some 45) rfl rfl HT_ ?_
   refine pU (i := 29) (N := some 46) rfl rfl HT_ ?_
   refine pU (i := 30) (N := some 47) rfl rfl HT_ ?_
   refine pU (i := 31) (N := some 48) rfl rfl HT_ ?_
   refine pU (i := 32) (N := some 49) rfl rfl HT_ ?_
   refine pX (i := 33) (N := some 50) rfl rfl HT_ ?_
   refine pX (i := 34) (N := some 51) rfl rfl HT_ ?_
   refine pU (i := 35) (N := some 52) rfl rfl HT_ ?_
   refine pU (i := 36) (N := some 53) rfl rfl HT_ ?_
   refine pU (i := 37) (N := some 54) rfl rfl HT_ ?_
   refine pU (i := 38) (N := some 55) rfl rfl HT_ ?_
   refine pU (i := 39) (N := some 56) rfl rfl HT_ ?_
   refine pX (i := 40) (N := some 57) rfl rfl HT_ ?_
   refine done_ (done_of HT_.out (by kernel_rfl)) ?_
   try go_wp2
   go_meet
   case rel => exact ⟨_, (true), (by first | rfl | (simp; done) | (simp [*]; done)), H', ⟨by first | omega | exact Nat.le_refl _⟩, ⟨by exact bD BK111⟩, ⟨by exact bD BK119⟩, ⟨by exact bD BK120⟩, ⟨by exact bD BK121⟩, ⟨sD HB⟩⟩
 case rest =>
  clear HC3
  try clear c1
  try clear c2
  try clear p2
  try clear c17
  try clear c23
  try clear c23b0
  try clear c23b1
  obtain ⟨kq, x57_2, rfl, HA, HJ2, BK111, BK119, BK120, BK121, HB⟩ := hcut
  cases kq with
  | zero => exact absurd HA.out (by simp [parolelaw32_examples0.j0])
  | succ kj2 =>
   have H := HA.out; clear HA
   simp only [parolelaw32_examples0.j0] at H
   by_cases c87 : x57_2 = true
   ·subst c87
    have H1 : (some false) = some r := by rw [if_pos rfl] at H; exact H
    clear H; have H := H1; clear H1
    exact absurd ((Option.some.inj H).trans HT.out) (by decide)
   ·replace c87 := Bool.eq_false_iff.mpr c87
    subst c87
    have H1 : ((parolelaw32_bound.f kj2 0 0 90 38 0 0).bind fun bt147 => (if ((bt147.1 == 1 && (bt147.2.1 == 2)) && (bt147.2.2 == 0)) = true then ((parolelaw32_bound.f kj2 0 0 90 5 0 0).bind fun bt150 => (if ((bt150.1 == 1 && (bt150.2.1 == 1)) && (bt150.2.2 == 0)) = true then ((parolelaw32_bound.f kj2 0 0 5 5 0 0).bind fun bt153 => (if ((bt153.1 == 0 && (bt153.2.1 == 1)) && (bt153.2.2 == 0)) = true then ((parolelaw32_bound.f kj2 0 0 9 5 1 0).bind fun bt156 => (some (bt156.2.2 == 320))) else (some false))) else (some false))) else (some false))) = some r := by rw [if_neg (show ¬ (false = true) by decide)] at H; exact H
    clear H; have H := H1; clear H1; replace H := Option.bind_eq_some_iff.mp H
    obtain ⟨⟨t147, t148, t149⟩, A880, H⟩ := H
    replace H : (if ((t147 == 1 && (t148 == 2)) && (t149 == 0)) = true then ((parolelaw32_bound.f kj2 0 0 90 5 0 0).bind fun bt150 => (if ((bt150.1 == 1 && (bt150.2.1 == 1)) && (bt150.2.2 == 0)) = true then ((parolelaw32_bound.f kj2 0 0 5 5 0 0).bind fun bt153 => (if ((bt153.1 == 0 && (bt153.2.1 == 1)) && (bt153.2.2 == 0)) = true then ((parolelaw32_bound.f kj2 0 0 9 5 1 0).bind fun bt156 => (some (bt156.2.2 == 320))) else (some false))) else (some false))) else (some false)) = some r := H
    have A88 := aM A880; clear A880
    by_cases c89 : ((t147 == 1 && (t148 == 2)) && (t149 == 0)) = true
    ·rw [if_pos c89] at H
     have c89b0 : ((t147 == 1 && (t148 == 2)) && (t149 == 0)) = true := c89
     clear c89; replace H := Option.bind_eq_some_iff.mp H
     obtain ⟨⟨t150, t151, t152⟩, A900, H⟩ := H
     replace H : (if ((t150 == 1 && (t151 == 1)) && (t152 == 0)) = true then ((parolelaw32_bound.f kj2 0 0 5 5 0 0).bind fun bt153 => (if ((bt153.1 == 0 && (bt153.2.1 == 1)) && (bt153.2.2 == 0)) = true then ((parolelaw32_bound.f kj2 0 0 9 5 1 0).bind fun bt156 => (some (bt156.2.2 == 320))) else (some false))) else (some false)) = some r := H
     have A90 := aM A900; clear A900
     by_cases c91 : ((t150 == 1 && (t151 == 1)) && (t152 == 0)) = true
     ·rw [if_pos c91] at H
      have c91b0 : ((t150 == 1 && (t151 == 1)) && (t152 == 0)) = true := c91
      clear c91; replace H := Option.bind_eq_some_iff.mp H
      obtain ⟨⟨t153, t154, t155⟩, A920, H⟩ := H
      replace H : (if ((t153 == 0 && (t154 == 1)) && (t155 == 0)) = true then ((parolelaw32_bound.f kj2 0 0 9 5 1 0).bind fun bt156 => (some (bt156.2.2 == 320))) else (some false)) = some r := H
      have A92 := aM A920; clear A920
      by_cases c93 : ((t153 == 0 && (t154 == 1)) && (t155 == 0)) = true
      ·rw [if_pos c93] at H
       have c93b0 : ((t153 == 0 && (t154 == 1)) && (t155 == 0)) = true := c93
       clear c93; replace H := Option.bind_eq_some_iff.mp H
       obtain ⟨⟨t156, t157, t158⟩, A940, H⟩ := H
       replace H : (some (t158 == 320)) = some r := H
       have A94 := aM A940; clear A940
       obtain rfl := Option.some.inj H
       try go_wp2_with (first | ((with_reducible refine gate_dst (N := 6) rfl ?_); (try (refine gate_guard (by rfl) ?_; dsimp only)); refine bE (N := 6) (cs := #[.int .i64 0, .int .i64 0, .int .i64 0]) (t := 45) ?_; intro gb144 hg w95 hbox hb; have BK144 := aM (hbox); have GW144 := gE hg HB; have GE144 := gE hg HB; have NB111_144 := nL hg BK111; have NB119_144 := nL hg BK119; have NB120_144 := nL hg BK120; have NB121_144 := nL hg BK121; replace BK111 := bB BK111 hb; replace BK119 := bB BK119 hb; replace BK120 := bB BK120 hb; replace BK121 := bB BK121 hb; replace HB := sB HB hb; clear hb hbox hg; have hnb96 := NB111_144.out.symm; have hnc96 := NB111_144.out; have hnb97 := NB119_144.out.symm; have hnc97 := NB119_144.out; have hnb98 := NB120_144.out.symm; have hnc98 := NB120_144.out; have hnb99 := NB121_144.out.symm; have hnc99 := NB121_144.out; obtain ⟨hcz100_0, hcz100_1, hcz100_2, hfz100_0, hfz100_1, hfz100_2⟩ := cZ3 BK144) | ((with_reducible refine gate_dst (N := 7) rfl ?_); (try (refine gate_guard (by rfl) ?_; dsimp only)); refine bE (N := 7) (cs := #[.int .i64 0, .int .i64 0, .int .i64 0]) (t := 45) ?_; intro gb145 hg w101 hbox hb; have BK145 := aM (hbox); have GW145 := gE hg HB; have GE145 := gE hg HB; have NB111_145 := aM ((by rw [hg]; exact Nat.ne_of_lt (blk_lt (g := gb111) (o := .cells #[.int .i64 t104, .int .i64 t105, .int .i64 t106, .int .i64 t107, .int .i64 t108, .int .i64 t109, .int .u64 t110] 28 (0, 0)) (bF BK111)) : gb111 ≠ gb145)); have NB145_111 := aM ((by rw [hg]; exact Nat.ne_of_gt (blk_lt (g := gb111) (o := .cells #[.int .i64 t104, .int .i64 t105, .int .i64 t106, .int .i64 t107, .int .i64 t108, .int .i64 t109, .int .u64 t110] 28 (0, 0)) (bF BK111)) : gb145 ≠ gb111)); have NB119_145 := aM ((by rw [hg]; exact Nat.ne_of_lt (blk_lt (g := gb119) (o := .cells #[.int .i64 t112, .int .i64 t113, .int .i64 t114, .int .i64 t115, .int .i64 t116, .int .i64 t117, .int .u64 t118] 28 (0, 0)) (bF BK119)) : gb119 ≠ gb145)); have NB145_119 := aM ((by rw [hg]; exact Nat.ne_of_gt (blk_lt (g := gb119) (o := .cells #[.int .i64 t112, .int .i64 t113, .int .i64 t114, .int .i64 t115, .int .i64 t116, .int .i64 t117, .int .u64 t118] 28 (0, 0)) (bF BK119)) : gb145 ≠ gb119)); have NB120_145 := aM ((by rw [hg]; exact Nat.ne_of_lt (blk_lt (g := gb120) (o := .cells #[.int .i64 t112, .int .i64 t113, .int .i64 t114, .int .i64 t115, .int .i64 t116, .int .i64 0, .int .u64 t118] 28 (0, 0)) (bF BK120)) : gb120 ≠ gb145)); have NB145_120 := aM ((by rw [hg]; exact Nat.ne_of_gt (blk_lt (g := gb120) (o := .cells #[.int .i64 t112, .int .i64 t113, .int .i64 t114, .int .i64 t115, .int .i64 t116, .int .i64 0, .int .u64 t118] 28 (0, 0)) (bF BK120)) : gb145 ≠ gb120)); have NB121_145 := aM ((by rw [hg]; exact Nat.ne_of_lt (blk_lt (g := gb121) (o := .cells #[.int .i64 7, .int .i64 1, .int .i64 90, .int .i64 30, .int .i64 1, .int .i64 2] 40 (0, 0)) (bF BK121)) : gb121 ≠ gb145)); have NB145_121 := aM ((by rw [hg]; exact Nat.ne_of_gt (blk_lt (g := gb121) (o := .cells #[.int .i64 7, .int .i64 1, .int .i64 90, .int .i64 30, .int .i64 1, .int .i64 2] 40 (0, 0)) (bF BK121)) : gb145 ≠ gb121)); have NB144_145 := aM ((by rw [hg]; exact Nat.ne_of_lt (blk_lt (g := gb144) (o := .cells #[.int .i64 1, .int .i64 2, .int .i64 0] 45 (0, 0)) (by refine bM ?_; refine blk_put (cs := #[.int .i64 1, .int .i64 2, .int .i64 0]) ?_ 2 _ rfl; refine bM ?_; refine blk_put (cs := #[.int .i64 1, .int .i64 0, .int .i64 0]) ?_ 1 _ rfl; refine bM ?_; refine blk_put (cs := #[.int .i64 0, .int .i64 0, .int .i64 0]) ?_ 0 _ rfl; exact bD BK144)) : gb144 ≠ gb145)); have NB145_144 := aM ((by rw [hg]; exact Nat.ne_of_gt (blk_lt (g := gb144) (o := .cells #[.int .i64 1, .int .i64 2, .int .i64 0] 45 (0, 0)) (by refine bM ?_; refine blk_put (cs := #[.int .i64 1, .int .i64 2, .int .i64 0]) ?_ 2 _ rfl; refine bM ?_; refine blk_put (cs := #[.int .i64 1, .int .i64 0, .int .i64 0]) ?_ 1 _ rfl; refine bM ?_; refine blk_put (cs := #[.int .i64 0, .int .i64 0, .int .i64 0]) ?_ 0 _ rfl; exact bD BK144)) : gb145 ≠ gb144)); replace BK111 := aM (blk_below (g := gb111) (o := .cells #[.int .i64 t104, .int .i64 t105, .int .i64 t106, .int .i64 t107, .int .i64 t108, .int .i64 t109, .int .u64 t110] 28 (0, 0)) (bF BK111) hb); replace BK119 := aM (blk_below (g := gb119) (o := .cells #[.int .i64 t112, .int .i64 t113, .int .i64 t114, .int .i64 t115, .int .i64 t116, .int .i64 t117, .int .u64 t118] 28 (0, 0)) (bF BK119) hb); replace BK120 := aM (blk_below (g := gb120) (o := .cells #[.int .i64 t112, .int .i64 t113, .int .i64 t114, .int .i64 t115, .int .i64 t116, .int .i64 0, .int .u64 t118] 28 (0, 0)) (bF BK120) hb); replace BK121 := aM (blk_below (g := gb121) (o := .cells #[.int .i64 7, .int .i64 1, .int .i64 90, .int .i64 30, .int .i64 1, .int .i64 2] 40 (0, 0)) (bF BK121) hb); replace BK144 := aM (blk_below (g := gb144) (o := .cells #[.int .i64 1, .int .i64 2, .int .i64 0] 45 (0, 0)) (by refine bM ?_; refine blk_put (cs := #[.int .i64 1, .int .i64 2, .int .i64 0]) ?_ 2 _ rfl; refine bM ?_; refine blk_put (cs := #[.int .i64 1, .int .i64 0, .int .i64 0]) ?_ 1 _ rfl; refine bM ?_; refine blk_put (cs := #[.int .i64 0, .int .i64 0, .int .i64 0]) ?_ 0 _ rfl; exact bD BK144) hb); replace HB := sB HB hb; clear hb hbox hg; have hnb102 := NB111_145.out.symm; have hnc102 := NB111_145.out; have hnb103 := NB119_145.out.symm; have hnc103 := NB119_145.out; have hnb104 := NB120_145.out.symm; have hnc104 := NB120_145.out; have hnb105 := NB121_145.out.symm; have hnc105 := NB121_145.out; have hnb106 := NB144_145.out.symm; have hnc106 := NB144_145.out; obtain ⟨hcz107_0, hcz107_1, hcz107_2, hfz107_0, hfz107_1, hfz107_2⟩ := cZ3 BK145) | ((with_reducible refine gate_dst (N := 8) rfl ?_); (try (refine gate_guard (by rfl) ?_; dsimp only)); refine bE (N := 8) (cs := #[.int .i64 0, .int .i64 0, .int .i64 0]) (t := 45) ?_; intro gb146 hg w108 hbox hb; have BK146 := aM (hbox); have GW146 := gE hg HB; have GE146 := gE hg HB; have NB111_146 := aM ((by rw [hg]; exact Nat.ne_of_lt (blk_lt (g := gb111) (o := .cells #[.int .i64 t104, .int .i64 t105, .int .i64 t106, .int .i64 t107, .int .i64 t108, .int .i64 t109, .int .u64 t110] 28 (0, 0)) (bF BK111)) : gb111 ≠ gb146)); have NB146_111 := aM ((by rw [hg]; exact Nat.ne_of_gt (blk_lt (g := gb111) (o := .cells #[.int .i64 t104, .int .i64 t105, .int .i64 t106, .int .i64 t107, .int .i64 t108, .int .i64 t109, .int .u64 t110] 28 (0, 0)) (bF BK111)) : gb146 ≠ gb111)); have NB119_146 := aM ((by rw [hg]; exact Nat.ne_of_lt (blk_lt (g := gb119) (o := .cells #[.int .i64 t112, .int .i64 t113, .int .i64 t114, .int .i64 t115, .int .i64 t116, .int .i64 t117, .int .u64 t118] 28 (0, 0)) (bF BK119)) : gb119 ≠ gb146)); have NB146_119 := aM ((by rw [hg]; exact Nat.ne_of_gt (blk_lt (g := gb119) (o := .cells #[.int .i64 t112, .int .i64 t113, .int .i64 t114, .int .i64 t115, .int .i64 t116, .int .i64 t117, .int .u64 t118] 28 (0, 0)) (bF BK119)) : gb146 ≠ gb119)); have NB120_146 := aM ((by rw [hg]; exact Nat.ne_of_lt (blk_lt (g := gb120) (o := .cells #[.int .i64 t112, .int .i64 t113, .int .i64 t114, .int .i64 t115, .int .i64 t116, .int .i64 0, .int .u64 t118] 28 (0, 0)) (bF BK120)) : gb120 ≠ gb146)); have NB146_120 := aM ((by rw [hg]; exact Nat.ne_of_gt (blk_lt (g := gb120) (o := .cells #[.int .i64 t112, .int .i64 t113, .int .i64 t114, .int .i64 t115, .int .i64 t116, .int .i64 0, .int .u64 t118] 28 (0, 0)) (bF BK120)) : gb146 ≠ gb120)); have NB121_146 := aM ((by rw [hg]; exact Nat.ne_of_lt (blk_lt (g := gb121) (o := .cells #[.int .i64 7, .int .i64 1, .int .i64 90, .int .i64 30, .int .i64 1, .int .i64 2] 40 (0, 0)) (bF BK121)) : gb121 ≠ gb146)); have NB146_121 := aM ((by rw [hg]; exact Nat.ne_of_gt (blk_lt (g := gb121) (o := .cells #[.int .i64 7, .int .i64 1, .int .i64 90, .int .i64 30, .int .i64 1, .int .i64 2] 40 (0, 0)) (bF BK121)) : gb146 ≠ gb121)); have NB144_146 := aM ((by rw [hg]; exact Nat.ne_of_lt (blk_lt (g := gb144) (o := .cells #[.int .i64 1, .int .i64 2, .int .i64 0] 45 (0, 0)) (bF BK144)) : gb144 ≠ gb146)); have NB146_144 := aM ((by rw [hg]; exact Nat.ne_of_gt (blk_lt (g := gb144) (o := .cells #[.int .i64 1, .int .i64 2, .int .i64 0] 45 (0, 0)) (bF BK144)) : gb146 ≠ gb144)); have NB145_146 := aM ((by rw [hg]; exact Nat.ne_of_lt (blk_lt (g := gb145) (o := .cells #[.int .i64 1, .int .i64 1, .int .i64 0] 45 (0, 0)) (by refine bM ?_; refine blk_put (cs := #[.int .i64 1, .int .i64 1, .int .i64 0]) ?_ 2 _ rfl; refine bM ?_; refine blk_put (cs := #[.int .i64 1, .int .i64 0, .int .i64 0]) ?_ 1 _ rfl; refine bM ?_; refine blk_put (cs := #[.int .i64 0, .int .i64 0, .int .i64 0]) ?_ 0 _ rfl; exact bD BK145)) : gb145 ≠ gb146)); have NB146_145 := aM ((by rw [hg]; exact Nat.ne_of_gt (blk_lt (g := gb145) (o := .cells #[.int .i64 1, .int .i64 1, .int .i64 0] 45 (0, 0)) (by refine bM ?_; refine blk_put (cs := #[.int .i64 1, .int .i64 1, .int .i64 0]) ?_ 2 _ rfl; refine bM ?_; refine blk_put (cs := #[.int .i64 1, .int .i64 0, .int .i64 0]) ?_ 1 _ rfl; refine bM ?_; refine blk_put (cs := #[.int .i64 0, .int .i64 0, .int .i64 0]) ?_ 0 _ rfl; exact bD BK145)) : gb146 ≠ gb145)); replace BK111 := aM (blk_below (g := gb111) (o := .cells #[.int .i64 t104, .int .i64 t105, .int .i64 t106, .int .i64 t107, .int .i64 t108, .int .i64 t109, .int .u64 t110] 28 (0, 0)) (bF BK111) hb); replace BK119 := aM (blk_below (g := gb119) (o := .cells #[.int .i64 t112, .int .i64 t113, .int .i64 t114, .int .i64 t115, .int .i64 t116, .int .i64 t117, .int .u64 t118] 28 (0, 0)) (bF BK119) hb); replace BK120 := aM (blk_below (g := gb120) (o := .cells #[.int .i64 t112, .int .i64 t113, .int .i64 t114, .int .i64 t115, .int .i64 t116, .int .i64 0, .int .u64 t118] 28 (0, 0)) (bF BK120) hb); replace BK121 := aM (blk_below (g := gb121) (o := .cells #[.int .i64 7, .int .i64 1, .int .i64 90, .int .i64 30, .int .i64 1, .int .i64 2] 40 (0, 0)) (bF BK121) hb); replace BK144 := aM (blk_below (g := gb144) (o := .cells #[.int .i64 1, .int .i64 2, .int .i64 0] 45 (0, 0)) (bF BK144) hb); replace BK145 := aM (blk_below (g := gb145) (o := .cells #[.int .i64 1, .int .i64 1, .int .i64 0] 45 (0, 0)) (by refine bM ?_; refine blk_put (cs := #[.int .i64 1, .int .i64 1, .int .i64 0]) ?_ 2 _ rfl; refine bM ?_; refine blk_put (cs := #[.int .i64 1, .int .i64 0, .int .i64 0]) ?_ 1 _ rfl; refine bM ?_; refine blk_put (cs := #[.int .i64 0, .int .i64 0, .int .i64 0]) ?_ 0 _ rfl; exact bD BK145) hb); replace HB := sB HB hb; clear hb hbox hg; have hnb109 := NB111_146.out.symm; have hnc109 := NB111_146.out; have hnb110 := NB119_146.out.symm; have hnc110 := NB119_146.out; have hnb111 := NB120_146.out.symm; have hnc111 := NB120_146.out; have hnb112 := NB121_146.out.symm; have hnc112 := NB121_146.out; have hnb113 := NB144_146.out.symm; have hnc113 := NB144_146.out; have hnb114 := NB145_146.out.symm; have hnc114 := NB145_146.out; obtain ⟨hcz115_0, hcz115_1, hcz115_2, hfz115_0, hfz115_1, hfz115_2⟩ := cZ3 BK146))
       have n0_ : Aside0 ((((w108.setCell ⟨gb146, 0, none⟩ (.int .i64 0)).setCell ⟨gb146, 1, none⟩ (.int .i64 1)).setCell ⟨gb146, 2, none⟩ (.int .i64 0)).heap[gb111]? = some (.cells #[.int .i64 t104, .int .i64 t105, .int .i64 t106, .int .i64 t107, .int .i64 t108, .int .i64 t109, .int .u64 t110] 28 (0, 0))) := ⟨bF BK111⟩
       have n1_ : Aside0 ((((w108.setCell ⟨gb146, 0, none⟩ (.int .i64 0)).setCell ⟨gb146, 1, none⟩ (.int .i64 1)).setCell ⟨gb146, 2, none⟩ (.int .i64 0)).heap[gb119]? = some (.cells #[.int .i64 t112, .int .i64 t113, .int .i64 t114, .int .i64 t115, .int .i64 t116, .int .i64 t117, .int .u64 t118] 28 (0, 0))) := ⟨bF BK119⟩
       have n2_ : Aside0 ((((w108.setCell ⟨gb146, 0, none⟩ (.int .i64 0)).setCell ⟨gb146, 1, none⟩ (.int .i64 1)).setCell ⟨gb146, 2, none⟩ (.int .i64 0)).heap[gb120]? = some (.cells #[.int .i64 t112, .int .i64 t113, .int .i64 t114, .int .i64 t115, .int .i64 t116, .int .i64 0, .int .u64 t118] 28 (0, 0))) := ⟨bF BK120⟩
       have n3_ : Aside0 ((((w108.setCell ⟨gb146, 0, none⟩ (.int .i64 0)).setCell ⟨gb146, 1, none⟩ (.int .i64 1)).setCell ⟨gb146, 2, none⟩ (.int .i64 0)).heap[gb121]? = some (.cells #[.int .i64 7, .int .i64 1, .int .i64 90, .int .i64 30, .int .i64 1, .int .i64 2] 40 (0, 0))) := ⟨bF BK121⟩
       have n4_ : Aside0 ((((w108.setCell ⟨gb146, 0, none⟩ (.int .i64 0)).setCell ⟨gb146, 1, none⟩ (.int .i64 1)).setCell ⟨gb146, 2, none⟩ (.int .i64 0)).heap[gb144]? = some (.cells #[.int .i64 1, .int .i64 2, .int .i64 0] 45 (0, 0))) := ⟨bF BK144⟩
       have n5_ : Aside0 ((((w108.setCell ⟨gb146, 0, none⟩ (.int .i64 0)).setCell ⟨gb146, 1, none⟩ (.int .i64 1)).setCell ⟨gb146, 2, none⟩ (.int .i64 0)).heap[gb145]? = some (.cells #[.int .i64 1, .int .i64 1, .int .i64 0] 45 (0, 0))) := ⟨bF BK145⟩
       have n6_ : Aside0 ((((w108.setCell ⟨gb146, 0, none⟩ (.int .i64 0)).setCell ⟨gb146, 1, none⟩ (.int .i64 1)).setCell ⟨gb146, 2, none⟩ (.int .i64 0)).heap[gb146]? = some (.cells #[.int .i64 0, .int .i64 1, .int .i64 0] 45 (0, 0))) := ⟨by refine bM ?_; refine blk_put (cs := #[.int .i64 0, .int .i64 1, .int .i64 0]) ?_ 2 _ rfl; refine bM ?_; refine blk_put (cs := #[.int .i64 0, .int .i64 0, .int .i64 0]) ?_ 1 _ rfl; refine bM ?_; refine blk_put (cs := #[.int .i64 0, .int .i64 0, .int .i64 0]) ?_ 0 _ rfl; exact bD BK146⟩
       have n7_ : Aside0 (Below w.heap.size w (((w108.setCell ⟨gb146, 0, none⟩ (.int .i64 0)).setCell ⟨gb146, 1, none⟩ (.int .i64 1)).setCell ⟨gb146, 2, none⟩ (.int .i64 0))) := ⟨sD HB⟩
       (try clear BK111); (try clear BK119); (try clear BK120); (try clear BK121); (try clear BK144); (try clear BK145); (try clear BK146); (try clear HB)
       generalize (((w108.setCell ⟨gb146, 0, none⟩ (.int .i64 0)).setCell ⟨gb146, 1, none⟩ (.int .i64 1)).setCell ⟨gb146, 2, none⟩ (.int .i64 0)) = w116 at n0_ n1_ n2_ n3_ n4_ n5_ n6_ n7_ ⊢
       have BK111 := n0_; have BK119 := n1_; have BK120 := n2_; have BK121 := n3_; have BK144 := n4_; have BK145 := n5_; have BK146 := n6_; have HB := n7_; clear n0_ n1_ n2_ n3_ n4_ n5_ n6_ n7_; replace BK111 := aM (blk_drew BK111.out); replace BK119 := aM (blk_drew BK119.out); replace BK120 := aM (blk_drew BK120.out); replace BK121 := aM (blk_drew BK121.out); replace BK144 := aM (blk_drew BK144.out); replace BK145 := aM (blk_drew BK145.out); replace BK146 := aM (blk_drew BK146.out); replace HB := aM (below_drew1 HB.out)
       refine start_ (n := 23) (S := fun w' => w'.cell? ⟨gb144, 0, none⟩ = some (.int .i64 1) ∧ w'.cell? ⟨gb144, 1, none⟩ = some (.int .i64 2) ∧ w'.cell? ⟨gb144, 2, none⟩ = some (.int .i64 0) ∧ w'.cell? ⟨gb145, 0, none⟩ = some (.int .i64 1) ∧ w'.cell? ⟨gb145, 1, none⟩ = some (.int .i64 1) ∧ w'.cell? ⟨gb145, 2, none⟩ = some (.int .i64 0) ∧ w'.cell? ⟨gb146, 0, none⟩ = some (.int .i64 0) ∧ w'.cell? ⟨gb146, 1, none⟩ = some (.int .i64 1) ∧ w'.cell? ⟨gb146, 2, none⟩ = some (.int .i64 0)) (ds := []) #[false, false, false, false, false, false, false, false, false, false, false, false, false, false, false, false, false, false, false, false, false, false, false] (by kernel_rfl) rfl rfl ⟨cE BK144 0, cE BK144 1, cE BK144 2, cE BK145 0, cE BK145 1, cE BK145 2, cE BK146 0, cE BK146 1, cE BK146 2⟩ (fun hHeld => ?_); refine with_tabW parolelaw32_examples0.tab12 parolelaw32_examples0.bits12 (fun HT_ HW_ => ?_)
       generalize w116.drew = w117 at BK111 BK119 BK120 BK121 BK144 BK145 BK146 HB hHeld ⊢
       refine pX (i := 0) (N := some 64) rfl rfl HT_ ?_
       refine tX (i := 2) (N := some 66) rfl rfl HT_ HW_ hHeld (Or.inl ⟨by rfl, by rintro w' ⟨s0, s1, s2, s3, s4, s5, s6, s7, s8⟩; go_simp; with_reducible rfl⟩) ?_
       refine oX (i := 1) (N := some 65) rfl rfl HT_ (fun K hK => ?_)
       refine gS Try.func21 #[.agg #[.int .i64 0, .int .i64 0, .int .i64 90, .int .i64 38, .int .i64 0, .int .i64 0]] ?_
       with_reducible refine (parolelaw32_bound.calls kj2 0 0 90 38 0 0 t147 t148 t149 _ A88.out).mono ?_
       rintro e w118 ⟨rfl, hb⟩
       refine ⟨_, rfl, ?_⟩
       replace BK111 := bB BK111 hb; replace BK119 := bB BK119 hb; replace BK120 := bB BK120 hb; replace BK121 := bB BK121 hb; replace BK144 := bB BK144 hb; replace BK145 := bB BK145 hb; replace BK146 := bB BK146 hb; replace HB := sB HB hb; (try clear hb); (try clear hb2); (try clear hk); (try clear hi)
       refine hK.out _ _ ⟨cE BK144 0, cE BK144 1, cE BK144 2, cE BK145 0, cE BK145 1, cE BK145 2, cE BK146 0, cE BK146 1, cE BK146 2⟩ (fun hHeld => ?_)
       clear hK K
       refine nX (some 65) ?_
       refine pX (i := 3) (N := some 67) rfl rfl HT_ ?_
       refine pX (i := 4) (N := some 68) rfl rfl HT_ ?_
       refine pX (i := 5) (N := some 69) rfl rfl HT_ ?_
       refine tX (i := 7) (N := some 71) rfl rfl HT_ HW_ hHeld (Or.inl ⟨by rfl, by rintro w' ⟨s0, s1, s2, s3, s4, s5, s6, s7, s8⟩; go_simp; with_reducible rfl⟩) ?_
       refine oX (i := 6) (N := some 70) rfl rfl HT_ (fun K hK => ?_)
       refine gS Try.func21 #[.agg #[.int .i64 0, .int .i64 0, .int .i64 90, .int .i64 5, .int .i64 0, .int .i64 0]] ?_
       with_reducible refine (parolelaw32_bound.calls kj2 0 0 90 5 0 0 t150 t151 t152 _ A90.out).mono ?_
       rintro e w119 ⟨rfl, hb⟩
       refine ⟨_, rfl, ?_⟩
       replace BK111 := bB BK111 hb; replace BK119 := bB BK119 hb; replace BK120 := bB BK120 hb; replace BK121 := bB BK121 hb; replace BK144 := bB BK144 hb; replace BK145 := bB BK145 hb; replace BK146 := bB BK146 hb; replace HB := sB HB hb; (try clear hb); (try clear hb2); (try clear hk); (try clear hi)
       refine hK.out _ _ ⟨cE BK144 0, cE BK144 1, cE BK144 2, cE BK145 0, cE BK145 1, cE BK145 2, cE BK146 0, cE BK146 1, cE BK146 2⟩ (fun hHeld => ?_)
       clear hK K
       refine nX (some 70) ?_
       refine pX (i := 8) (N := some 72) rfl rfl HT_ ?_
       refine pX (i := 9) (N := some 73) rfl rfl HT_ ?_
       refine pX (i := 10) (N := some 74) rfl rfl HT_ ?_
       refine pX (i := 11) (N := some 75) rfl rfl HT_ ?_
       refine tX (i := 13) (N := some 77) rfl rfl HT_ HW_ hHeld (Or.inl ⟨by rfl, by rintro w' ⟨s0, s1, s2, s3, s4, s5, s6, s7, s8⟩; go_simp; with_reducible rfl⟩) ?_
       refine oX (i := 12) (N := some 76) rfl rfl HT_ (fun K hK => ?_)
       refine gS Try.func21 #[.agg #[.int .i64 0, .int .i64 0, .int .i64 5, .int .i64 5, .int .i64 0, .int .i64 0]] ?_
       with_reducible refine (parolelaw32_bound.calls kj2 0 0 5 5 0 0 t153 t154 t155 _ A92.out).mono ?_
       rintro e w120 ⟨rfl, hb⟩
       refine ⟨_, rfl, ?_⟩
       replace BK111 := bB BK111 hb; replace BK119 := bB BK119 hb; replace BK120 := bB BK120 hb; replace BK121 := bB BK121 hb; replace BK144 := bB BK144 hb; replace BK145 := bB BK145 hb; replace BK146 := bB BK146 hb; replace HB := sB HB hb; (try clear hb); (try clear hb2); (try clear hk); (try clear hi)
       refine hK.out _ _ ⟨cE BK144 0, cE BK144 1, cE BK144 2, cE BK145 0, cE BK145 1, cE BK145 2, cE BK146 0, cE BK146 1, cE BK146 2⟩ (fun hHeld => ?_)
       clear hK K
       refine nX (some 76) ?_
       refine pX (i := 14) (N := some 78) rfl rfl HT_ ?_
       refine pX (i := 15) (N := some 79) rfl rfl HT_ ?_
       refine pX (i := 16) (N := some 80) rfl rfl HT_ ?_
       refine pX (i := 17) (N := some 81) rfl rfl HT_ ?_
       refine oX (i := 18) (N := some 82) rfl rfl HT_ (fun K hK => ?_)
       refine gS Try.func21 #[.agg #[.int .i64 0, .int .i64 0, .int .i64 9, .int .i64 5, .int .i64 1, .int .i64 0]] ?_
       with_reducible refine (parolelaw32_bound.calls kj2 0 0 9 5 1 0 t156 t157 t158 _ A94.out).mono ?_
       rintro e w121 ⟨rfl, hb⟩
       refine ⟨_, rfl, ?_⟩
       replace BK111 := bB BK111 hb; replace BK119 := bB BK119 hb; replace BK120 := bB BK120 hb; replace BK121 := bB BK121 hb; replace BK144 := bB BK144 hb; replace BK145 := bB BK145 hb; replace BK146 := bB BK146 hb; replace HB := sB HB hb; (try clear hb); (try clear hb2); (try clear hk); (try clear hi)
       refine hK.out _ _ ⟨cE BK144 0, cE BK144 1, cE BK144 2, cE BK145 0, cE BK145 1, cE BK145 2, cE BK146 0, cE BK146 1, cE BK146 2⟩ (fun hHeld => ?_)
       clear hK K
       refine nX (some 82) ?_
       refine pX (i := 19) (N := some 83) rfl rfl HT_ ?_
       refine pX (i := 20) (N := some 84) rfl rfl HT_ ?_
       refine pX (i := 21) (N := some 85) rfl rfl HT_ ?_
       refine pX (i := 22) (N := some 0) rfl rfl HT_ ?_
       refine done_ (done_of HT_.out (by kernel_rfl)) ?_
       try go_wp2
       go_ret
       exact ⟨by first | rfl | (simp [errW_none, errW_some] <;> rfl) | (simp [*, errW_none, errW_some] <;> rfl), sD HB⟩
      ·rw [if_neg c93] at H
       have c93b0 : ((t153 == 0 && (t154 == 1)) && (t155 == 0)) = false := by simpa using c93
       clear c93
       exact absurd ((Option.some.inj H).trans HT.out) (by decide)
     ·rw [if_neg c91] at H
      have c91b0 : ((t150 == 1 && (t151 == 1)) && (t152 == 0)) = false := by simpa using c91
      clear c91
      exact absurd ((Option.some.inj H).trans HT.out) (by decide)
    ·rw [if_neg c89] at H
     have c89b0 : ((t147 == 1 && (t148 == 2)) && (t149 == 0)) = false := by simpa using c89
     clear c89
     exact absurd ((Option.some.inj H).trans HT.out) (by decide)
def parolelaw32_examples.f : Option (Bool) := some true
theorem parolelaw32_examples.calls (r : Bool) (w : World) (h : parolelaw32_examples.f = some r) :
  Calls Try.prog 10 #[] w fun e w' => e = .returned (.bool r) ∧ Below w.heap.size w w' := by
 obtain rfl := Option.some.inj h
 exact (parolelaw32_examples0.calls 200 true w rfl (by kernel_rfl))
end Go.Proofs.Ytfdoncgljohndaa.P

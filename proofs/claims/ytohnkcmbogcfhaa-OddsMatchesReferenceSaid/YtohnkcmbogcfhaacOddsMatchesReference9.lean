/- A part of the claim OddsMatchesReference: lemmas, printed functions with their contracts, plain laws. -/
import Derived.Test.YtohnkcmbogcfhaacOddsMatchesReference8
set_option linter.unusedVariables false
set_option linter.unusedSimpArgs false
namespace Go.Proofs.Ytohnkcmbogcfhaa.P
open Go.Proofs.YtohnkcmbogcfhaaH Go.RowKit Go.Proofs.YtohnkcmbogcfhaaW.PrintWords Go.Proofs.YtohnkcmbogcfhaaW.PrintLast Go.Proofs.YtohnkcmbogcfhaaW.PrintMore
attribute [local go_sem] max2_int min2_int max_two min_two max_three min_three max_four min_four   -- for this text's walks alone
attribute [local go_sem high] eqA35 eqA38
mutual
def parolelaw37_OddsMatchesReference.j0 : Nat → List (S71) → Bool → Bool → List (S96) → List (S96) → Int → Int → Option (Bool)
 | 0, _, _, _, _, _, _, _ => none
 | k + 1, x0, x7, x28, x102000, x102001, x103000, x103001 => if x28 = true then (some x7) else ((paroleref37_Made.f k x102000).bind fun t104 => ((paroleref37_Made.f k x102001).bind fun t107 => ((odds_Right.f k x0).bind fun t110 => ((paroleref37_Right.f k x0).bind fun t111 => (if t110 = t111 then ((odds_Right.f k t104).bind fun t112 => (if t112 = 0 then ((parolelaw37_joined.f k t104 t107).bind fun bt113 => ((paroleref37_Join.f k t104 t107).bind fun bt117 => ((parolelaw37_same.f k bt113.1 bt113.2 bt117.1 bt117.2).bind fun t121 => (if t121 = true then ((odds_Of.f k t104 x103000).bind fun bt122 => ((paroleref37_Of.f k t104 x103000).bind fun bt124 => (if (!(bt122.1 == bt124.1) || (!(bt122.2 == bt124.2))) = true then (parolelaw37_OddsMatchesReference.j1 k x7 t104 t107 true x103000 x103001) else ((parolelaw37_loss.f k t104 x103000 x103001).bind fun bt126 => ((paroleref37_Loss.f k t104 x103000 x103001).bind fun bt129 => (parolelaw37_OddsMatchesReference.j1 k x7 t104 t107 ((!(bt126.1 == bt129.1) || (!(bt126.2.1 == bt129.2.1))) || (!(bt126.2.2 == bt129.2.2))) x103000 x103001)))))) else (parolelaw37_OddsMatchesReference.j1 k x7 t104 t107 true x103000 x103001))))) else (parolelaw37_OddsMatchesReference.j1 k x7 t104 t107 true x103000 x103001))) else (parolelaw37_OddsMatchesReference.j1 k x7 t104 t107 true x103000 x103001))))))
def parolelaw37_OddsMatchesReference.j1 : Nat → Bool → List (S71) → List (S71) → Bool → Int → Int → Option (Bool)
 | 0, _, _, _, _, _, _ => none
 | k + 1, x7, x8, x9, x81, x103000, x103001 => if x81 = true then (some false) else (parolelaw37_OddsMatchesReference.l0 k x7 x8 x9 0 x103000 x103001)
def parolelaw37_OddsMatchesReference.l0 : Nat → Bool → List (S71) → List (S71) → Int → Int → Int → Option (Bool)
 | 0, _, _, _, _, _, _ => none
 | k + 1, x7, x8, x9, x10, x103000, x103001 => if x10 < 16 then ((parolelaw37_learned.f k x8 x10 true).bind fun bt141 => ((paroleref37_Learn.f k x8 x10 true).bind fun bt145 => ((parolelaw37_same.f k bt141.1 bt141.2 bt145.1 bt145.2).bind fun t149 => (if t149 = true then ((parolelaw37_learned.f k x8 x10 false).bind fun bt150 => ((paroleref37_Learn.f k x8 x10 false).bind fun bt154 => ((parolelaw37_same.f k bt150.1 bt150.2 bt154.1 bt154.2).bind fun t158 => (if t158 = true then ((odds_Of.f k x8 x10).bind fun bt159 => ((paroleref37_Of.f k x8 x10).bind fun bt161 => (if (!(bt159.1 == bt161.1) || (!(bt159.2 == bt161.2))) = true then (some false) else ((parolelaw37_loss.f k x9 x10 x103001).bind fun bt163 => ((paroleref37_Loss.f k x9 x10 x103001).bind fun bt166 => (if ((!(bt163.1 == bt166.1) || (!(bt163.2.1 == bt166.2.1))) || (!(bt163.2.2 == bt166.2.2))) = true then (some false) else (parolelaw37_OddsMatchesReference.l0 k x7 x8 x9 (wrap64 (x10 + 1)) x103000 x103001))))))) else (some false))))) else (some false))))) else ((parolelaw37_learned.f k x8 x103000 true).bind fun bt132 => ((paroleref37_Learn.f k x8 x103000 true).bind fun bt136 => ((parolelaw37_same.f k bt132.1 bt132.2 bt136.1 bt136.2).bind fun t140 => (if t140 = true then (some x7) else (some false)))))
end
def parolelaw37_OddsMatchesReference.f (k : Nat) (l0 : List (S71)) (l1_0 : List (S96)) (l1_1 : List (S96)) (a2_0 : Int) (a2_1 : Int) : Option (Bool) := (parolelaw37_examples.f).bind fun t103 => (if t103 = true then (if (l0.length : Int) > 40 then (parolelaw37_OddsMatchesReference.j0 k l0 t103 true l1_0 l1_1 a2_0 a2_1) else (if (l1_0.length : Int) > 40 then (parolelaw37_OddsMatchesReference.j0 k l0 t103 true l1_0 l1_1 a2_0 a2_1) else (parolelaw37_OddsMatchesReference.j0 k l0 t103 (decide ((l1_1.length : Int) > 40)) l1_0 l1_1 a2_0 a2_1))) else (some false))
theorem parolelaw37_OddsMatchesReference.mono_l : ∀ k, (∀ y0 y1 y2 y3 y4 y5 y6, LeO (parolelaw37_OddsMatchesReference.j0 k y0 y1 y2 y3 y4 y5 y6) (parolelaw37_OddsMatchesReference.j0 (k + 1) y0 y1 y2 y3 y4 y5 y6)) ∧ (∀ y0 y1 y2 y3 y4 y5, LeO (parolelaw37_OddsMatchesReference.j1 k y0 y1 y2 y3 y4 y5) (parolelaw37_OddsMatchesReference.j1 (k + 1) y0 y1 y2 y3 y4 y5)) ∧ (∀ y0 y1 y2 y3 y4 y5, LeO (parolelaw37_OddsMatchesReference.l0 k y0 y1 y2 y3 y4 y5) (parolelaw37_OddsMatchesReference.l0 (k + 1) y0 y1 y2 y3 y4 y5))
 | 0 => ⟨fun _ _ _ _ _ _ _ r h => by simp [parolelaw37_OddsMatchesReference.j0] at h, fun _ _ _ _ _ _ r h => by simp [parolelaw37_OddsMatchesReference.j1] at h, fun _ _ _ _ _ _ r h => by simp [parolelaw37_OddsMatchesReference.l0] at h⟩
 | k + 1 => by
  obtain ⟨ih0, ih1, ih2⟩ := parolelaw37_OddsMatchesReference.mono_l k
  refine ⟨?_, ?_, ?_⟩
  ·intro y0 y1 y2 y3 y4 y5 y6
   unfold parolelaw37_OddsMatchesReference.j0
   repeat' first
   | (with_reducible exact ih0 _ _ _ _ _ _ _)
   | (with_reducible exact ih1 _ _ _ _ _ _)
   | (with_reducible exact ih2 _ _ _ _ _ _)
   | (with_reducible exact odds_Of.mono _ _ _)
   | (with_reducible exact odds_Right.mono _ _)
   | (with_reducible exact parolelaw37_joined.mono _ _ _)
   | (with_reducible exact parolelaw37_learned.mono _ _ _ _)
   | (with_reducible exact parolelaw37_loss.mono _ _ _ _)
   | (with_reducible exact parolelaw37_same.mono _ _ _ _ _)
   | (with_reducible exact paroleref37_Join.mono _ _ _)
   | (with_reducible exact paroleref37_Learn.mono _ _ _ _)
   | (with_reducible exact paroleref37_Loss.mono _ _ _ _)
   | (with_reducible exact paroleref37_Made.mono _ _)
   | (with_reducible exact paroleref37_Of.mono _ _ _)
   | (with_reducible exact paroleref37_Right.mono _ _)
   | (with_reducible exact LeO.refl _)
   | (with_reducible exact LeO.none _)
   | (with_reducible refine LeO.ite ?_ ?_)
   | (with_reducible refine LeO.bind ?_ (fun _ => ?_))
   | exact ih0 _ _ _ _ _ _ _
   | exact ih1 _ _ _ _ _ _
   | exact ih2 _ _ _ _ _ _
   | exact odds_Of.mono _ _ _
   | exact odds_Right.mono _ _
   | exact parolelaw37_joined.mono _ _ _
   | exact parolelaw37_learned.mono _ _ _ _
   | exact parolelaw37_loss.mono _ _ _ _
   | exact parolelaw37_same.mono _ _ _ _ _
   | exact paroleref37_Join.mono _ _ _
   | exact paroleref37_Learn.mono _ _ _ _
   | exact paroleref37_Loss.mono _ _ _ _
   | exact paroleref37_Made.mono _ _
   | exact paroleref37_Of.mono _ _ _
   | exact paroleref37_Right.mono _ _
   | exact LeO.none _
   | refine LeO.ite ?_ ?_
   | refine LeO.bind ?_ (fun _ => ?_)
  ·intro y0 y1 y2 y3 y4 y5
   unfold parolelaw37_OddsMatchesReference.j1
   repeat' first
   | (with_reducible exact ih0 _ _ _ _ _ _ _)
   | (with_reducible exact ih1 _ _ _ _ _ _)
   | (with_reducible exact ih2 _ _ _ _ _ _)
   | (with_reducible exact odds_Of.mono _ _ _)
   | (with_reducible exact odds_Right.mono _ _)
   | (with_reducible exact parolelaw37_joined.mono _ _ _)
   | (with_reducible exact parolelaw37_learned.mono _ _ _ _)
   | (with_reducible exact parolelaw37_loss.mono _ _ _ _)
   | (with_reducible exact parolelaw37_same.mono _ _ _ _ _)
   | (with_reducible exact paroleref37_Join.mono _ _ _)
   | (with_reducible exact paroleref37_Learn.mono _ _ _ _)
   | (with_reducible exact paroleref37_Loss.mono _ _ _ _)
   | (with_reducible exact paroleref37_Made.mono _ _)
   | (with_reducible exact paroleref37_Of.mono _ _ _)
   | (with_reducible exact paroleref37_Right.mono _ _)
   | (with_reducible exact LeO.refl _)
   | (with_reducible exact LeO.none _)
   | (with_reducible refine LeO.ite ?_ ?_)
   | (with_reducible refine LeO.bind ?_ (fun _ => ?_))
   | exact ih0 _ _ _ _ _ _ _
   | exact ih1 _ _ _ _ _ _
   | exact ih2 _ _ _ _ _ _
   | exact odds_Of.mono _ _ _
   | exact odds_Right.mono _ _
   | exact parolelaw37_joined.mono _ _ _
   | exact parolelaw37_learned.mono _ _ _ _
   | exact parolelaw37_loss.mono _ _ _ _
   | exact parolelaw37_same.mono _ _ _ _ _
   | exact paroleref37_Join.mono _ _ _
   | exact paroleref37_Learn.mono _ _ _ _
   | exact paroleref37_Loss.mono _ _ _ _
   | exact paroleref37_Made.mono _ _
   | exact paroleref37_Of.mono _ _ _
   | exact paroleref37_Right.mono _ _
   | exact LeO.none _
   | refine LeO.ite ?_ ?_
   | refine LeO.bind ?_ (fun _ => ?_)
  ·intro y0 y1 y2 y3 y4 y5
   unfold parolelaw37_OddsMatchesReference.l0
   repeat' first
   | (with_reducible exact ih0 _ _ _ _ _ _ _)
   | (with_reducible exact ih1 _ _ _ _ _ _)
   | (with_reducible exact ih2 _ _ _ _ _ _)
   | (with_reducible exact odds_Of.mono _ _ _)
   | (with_reducible exact odds_Right.mono _ _)
   | (with_reducible exact parolelaw37_joined.mono _ _ _)
   | (with_reducible exact parolelaw37_learned.mono _ _ _ _)
   | (with_reducible exact parolelaw37_loss.mono _ _ _ _)
   | (with_reducible exact parolelaw37_same.mono _ _ _ _ _)
   | (with_reducible exact paroleref37_Join.mono _ _ _)
   | (with_reducible exact paroleref37_Learn.mono _ _ _ _)
   | (with_reducible exact paroleref37_Loss.mono _ _ _ _)
   | (with_reducible exact paroleref37_Made.mono _ _)
   | (with_reducible exact paroleref37_Of.mono _ _ _)
   | (with_reducible exact paroleref37_Right.mono _ _)
   | (with_reducible exact LeO.refl _)
   | (with_reducible exact LeO.none _)
   | (with_reducible refine LeO.ite ?_ ?_)
   | (with_reducible refine LeO.bind ?_ (fun _ => ?_))
   | exact ih0 _ _ _ _ _ _ _
   | exact ih1 _ _ _ _ _ _
   | exact ih2 _ _ _ _ _ _
   | exact odds_Of.mono _ _ _
   | exact odds_Right.mono _ _
   | exact parolelaw37_joined.mono _ _ _
   | exact parolelaw37_learned.mono _ _ _ _
   | exact parolelaw37_loss.mono _ _ _ _
   | exact parolelaw37_same.mono _ _ _ _ _
   | exact paroleref37_Join.mono _ _ _
   | exact paroleref37_Learn.mono _ _ _ _
   | exact paroleref37_Loss.mono _ _ _ _
   | exact paroleref37_Made.mono _ _
   | exact paroleref37_Of.mono _ _ _
   | exact paroleref37_Right.mono _ _
   | exact LeO.none _
   | refine LeO.ite ?_ ?_
   | refine LeO.bind ?_ (fun _ => ?_)
theorem parolelaw37_OddsMatchesReference.mono : ∀ a0 a1 a2 a3 a4 k, LeO (parolelaw37_OddsMatchesReference.f k a0 a1 a2 a3 a4) (parolelaw37_OddsMatchesReference.f (k + 1) a0 a1 a2 a3 a4) := by
 intro a0 a1 a2 a3 a4 k
 obtain ⟨ih0, ih1, ih2⟩ := parolelaw37_OddsMatchesReference.mono_l k
 unfold parolelaw37_OddsMatchesReference.f
 repeat' first
   | (with_reducible exact ih0 _ _ _ _ _ _ _)
   | (with_reducible exact ih1 _ _ _ _ _ _)
   | (with_reducible exact ih2 _ _ _ _ _ _)
   | (with_reducible exact odds_Of.mono _ _ _)
   | (with_reducible exact odds_Right.mono _ _)
   | (with_reducible exact parolelaw37_joined.mono _ _ _)
   | (with_reducible exact parolelaw37_learned.mono _ _ _ _)
   | (with_reducible exact parolelaw37_loss.mono _ _ _ _)
   | (with_reducible exact parolelaw37_same.mono _ _ _ _ _)
   | (with_reducible exact paroleref37_Join.mono _ _ _)
   | (with_reducible exact paroleref37_Learn.mono _ _ _ _)
   | (with_reducible exact paroleref37_Loss.mono _ _ _ _)
   | (with_reducible exact paroleref37_Made.mono _ _)
   | (with_reducible exact paroleref37_Of.mono _ _ _)
   | (with_reducible exact paroleref37_Right.mono _ _)
   | (with_reducible exact LeO.refl _)
   | (with_reducible exact LeO.none _)
   | (with_reducible refine LeO.ite ?_ ?_)
   | (with_reducible refine LeO.bind ?_ (fun _ => ?_))
   | exact ih0 _ _ _ _ _ _ _
   | exact ih1 _ _ _ _ _ _
   | exact ih2 _ _ _ _ _ _
   | exact odds_Of.mono _ _ _
   | exact odds_Right.mono _ _
   | exact parolelaw37_joined.mono _ _ _
   | exact parolelaw37_learned.mono _ _ _ _
   | exact parolelaw37_loss.mono _ _ _ _
   | exact parolelaw37_same.mono _ _ _ _ _
   | exact paroleref37_Join.mono _ _ _
   | exact paroleref37_Learn.mono _ _ _ _
   | exact paroleref37_Loss.mono _ _ _ _
   | exact paroleref37_Made.mono _ _
   | exact paroleref37_Of.mono _ _ _
   | exact paroleref37_Right.mono _ _
   | exact LeO.none _
   | refine LeO.ite ?_ ?_
   | refine LeO.bind ?_ (fun _ => ?_)
def parolelaw37_OddsMatchesReference.T6 : Bool × List (List Nat × List Nat) := (true, [([], []), ([0], [0]), ([1], [1]), ([], []), ([3], [3]), ([4, 2], [4]), ([2, 5, 0, 1, 2], [2]), ([5, 6, 0, 1, 2, 3, 4, 5, 6], [5])])
def parolelaw37_OddsMatchesReference.B6 : List Nat := [0, 1, 3, 0, 8, 31, 63, 127]
theorem parolelaw37_OddsMatchesReference.tab6 : rtab .any (opsOf Try.f3 6) = parolelaw37_OddsMatchesReference.T6 := by kernel_rfl
theorem parolelaw37_OddsMatchesReference.bits6 : waitsOk parolelaw37_OddsMatchesReference.T6.2 parolelaw37_OddsMatchesReference.B6 = true := by kernel_rfl
def parolelaw37_OddsMatchesReference.T7 : Bool × List (List Nat × List Nat) := (true, [([], []), ([0], [0]), ([], []), ([2, 1], [2]), ([1, 3], [1, 3]), ([4, 3], [4]), ([5], [5]), ([6, 5, 5], [5, 6]), ([7, 5], [5, 7]), ([5, 8], [5, 8]), ([9, 7], [9]), ([10], [10]), ([10], [10]), ([11, 12, 10, 10], [10, 11, 12]), ([10], [10]), ([10], [10]), ([14, 15, 13, 10], [10, 14, 15]), ([13, 16, 16, 10], [10, 13, 16]), ([17, 10], [10, 17]), ([10, 18], [10, 18]), ([19, 17], [19]), ([20], [20]), ([20], [20]), ([22, 20], [20, 22]), ([21, 23, 20, 20], [20, 21, 23]), ([20], [20]), ([20], [20]), ([26, 20], [20, 26]), ([25, 27, 24, 20], [20, 25, 27]), ([24, 28, 20], [20, 24, 28]), ([20, 29], [20, 29]), ([30, 28], [30]), ([31], [31]), ([31], [31]), ([33, 31], [31, 33]), ([31], [31]), ([35, 31], [31, 35]), ([32, 34, 36, 31, 31], [31, 32, 34, 36]), ([31], [31]), ([31], [31]), ([39, 31], [31, 39]), ([31], [31]), ([41, 31], [31, 41]), ([38, 40, 42, 37, 31], [31, 38, 40, 42]), ([37, 43, 31], [31, 37, 43]), ([31, 44], [31, 44])])
def parolelaw37_OddsMatchesReference.B7 : List Nat := [0, 1, 0, 7, 15, 31, 63, 127, 255, 511, 1023, 2047, 2047, 8191, 2047, 2047, 65535, 131071, 262143, 524287, 1048575, 2097151, 2097151, 6291455, 16777215, 2097151, 2097151, 69206015, 268435455, 536870911, 1073741823, 2147483647, 4294967295, 4294967295, 12884901887, 4294967295, 38654705663, 137438953471, 4294967295, 4294967295, 554050781183, 4294967295, 2203318222847, 8796093022207, 17592186044415, 35184372088831]
theorem parolelaw37_OddsMatchesReference.tab7 : rtab .any (opsOf Try.f3 7) = parolelaw37_OddsMatchesReference.T7 := by kernel_rfl
theorem parolelaw37_OddsMatchesReference.bits7 : waitsOk parolelaw37_OddsMatchesReference.T7.2 parolelaw37_OddsMatchesReference.B7 = true := by kernel_rfl
def parolelaw37_OddsMatchesReference.T12 : Bool × List (List Nat × List Nat) := (true, [([], []), ([], []), ([0, 1], [0, 1]), ([], []), ([], []), ([3, 4, 2], [3, 4]), ([2, 5, 5], [2, 5]), ([6], [6]), ([7, 6], [7]), ([8], [8]), ([8], [8]), ([9, 10, 8, 8], [8, 9, 10]), ([8], [8]), ([8], [8]), ([12, 13, 11, 8], [8, 12, 13]), ([11, 14, 14, 8], [8, 11, 14]), ([15, 8], [8, 15]), ([8, 16], [8, 16]), ([17, 15], [17]), ([18], [18]), ([18], [18]), ([19, 20, 18, 18], [18, 19, 20]), ([18], [18]), ([18], [18]), ([22, 23, 21, 18], [18, 22, 23]), ([21, 24, 18], [18, 21, 24]), ([18, 25], [18, 25]), ([26, 24], [26]), ([27], [27]), ([27], [27]), ([27], [27]), ([30, 27], [27, 30]), ([28, 29, 31, 27, 27], [27, 28, 29, 31]), ([27], [27]), ([27], [27]), ([27], [27]), ([35, 27], [27, 35]), ([33, 34, 36, 32, 27], [27, 33, 34, 36]), ([32, 37, 27], [27, 32, 37]), ([27, 38], [27, 38])])
def parolelaw37_OddsMatchesReference.B12 : List Nat := [0, 0, 3, 0, 0, 31, 63, 127, 255, 511, 511, 2047, 511, 511, 16383, 32767, 65535, 131071, 262143, 524287, 524287, 2097151, 524287, 524287, 16777215, 33554431, 67108863, 134217727, 268435455, 268435455, 268435455, 1342177279, 4294967295, 268435455, 268435455, 268435455, 34628173823, 137438953471, 274877906943, 549755813887]
theorem parolelaw37_OddsMatchesReference.tab12 : rtab .any (opsOf Try.f3 12) = parolelaw37_OddsMatchesReference.T12 := by kernel_rfl
theorem parolelaw37_OddsMatchesReference.bits12 : waitsOk parolelaw37_OddsMatchesReference.T12.2 parolelaw37_OddsMatchesReference.B12 = true := by kernel_rfl
def parolelaw37_OddsMatchesReference.T14 : Bool × List (List Nat × List Nat) := (true, [([], []), ([], []), ([1], [1]), ([0, 2], [0, 2]), ([], []), ([], []), ([5], [5]), ([4, 6, 3], [4, 6]), ([3, 7, 7], [3, 7]), ([8, 8], [8]), ([9], [9]), ([9, 10], [9, 10]), ([11, 9, 0, 1, 2, 3, 4, 5, 6, 7, 8, 9, 10, 11], [11])])
def parolelaw37_OddsMatchesReference.B14 : List Nat := [0, 0, 2, 7, 0, 0, 32, 127, 255, 511, 1023, 2047, 4095]
theorem parolelaw37_OddsMatchesReference.tab14 : rtab .any (opsOf Try.f3 14) = parolelaw37_OddsMatchesReference.T14 := by kernel_rfl
theorem parolelaw37_OddsMatchesReference.bits14 : waitsOk parolelaw37_OddsMatchesReference.T14.2 parolelaw37_OddsMatchesReference.B14 = true := by kernel_rfl
set_option maxHeartbeats 8000000 in
set_option maxRecDepth 100000 in
theorem parolelaw37_OddsMatchesReference.calls (k : Nat) (A0 : Option Addr) (c0 : Nat) (l0 : List (S71)) (A1_0 : Option Addr) (c1_0 : Nat) (l1_0 : List (S96)) (A1_1 : Option Addr) (c1_1 : Nat) (l1_1 : List (S96)) (a2_0 : Int) (a2_1 : Int) (r : Bool) (w : World) (hr0 : Kd.C k71 w A0 l0.length l0) (hc0 : l0.length ≤ c0) (hr1_0 : Kd.C k96 w A1_0 l1_0.length l1_0) (hc1_0 : l1_0.length ≤ c1_0) (hr1_1 : Kd.C k96 w A1_1 l1_1.length l1_1) (hc1_1 : l1_1.length ≤ c1_1) (hT : r = true) (h : parolelaw37_OddsMatchesReference.f k l0 l1_0 l1_1 a2_0 a2_1 = some r) :
  Calls Try.prog 3 #[.slice A0 l0.length c0, .agg #[.slice A1_0 l1_0.length c1_0, .slice A1_1 l1_1.length c1_1], .agg #[.int .i64 a2_0, .int .i64 a2_1]] w fun e w' => e = .returned (.bool r) ∧ Below w.heap.size w w' := by
 have hu24 := Try.underlying24
 have hu25 := Try.underlying25
 have HR0 := Aside0.mk hr0
 have HC0 := Aside0.mk hc0
 clear hr0 hc0
 have HR1_0 := Aside0.mk hr1_0
 have HC1_0 := Aside0.mk hc1_0
 clear hr1_0 hc1_0
 have HR1_1 := Aside0.mk hr1_1
 have HC1_1 := Aside0.mk hc1_1
 clear hr1_1 hc1_1
 have HB := Aside0.mk (Below.refl w.heap.size w)
 have HT := Aside0.mk hT
 clear hT
 have H : ((parolelaw37_examples.f).bind fun t103 => (if t103 = true then (if (l0.length : Int) > 40 then (parolelaw37_OddsMatchesReference.j0 k l0 t103 true l1_0 l1_1 a2_0 a2_1) else (if (l1_0.length : Int) > 40 then (parolelaw37_OddsMatchesReference.j0 k l0 t103 true l1_0 l1_1 a2_0 a2_1) else (parolelaw37_OddsMatchesReference.j0 k l0 t103 (decide ((l1_1.length : Int) > 40)) l1_0 l1_1 a2_0 a2_1))) else (some false))) = some r := h
 clear h
 replace H := Option.bind_eq_some_iff.mp H
 obtain ⟨t103, A40, H⟩ := H
 replace H : (if t103 = true then (if (l0.length : Int) > 40 then (parolelaw37_OddsMatchesReference.j0 k l0 t103 true l1_0 l1_1 a2_0 a2_1) else (if (l1_0.length : Int) > 40 then (parolelaw37_OddsMatchesReference.j0 k l0 t103 true l1_0 l1_1 a2_0 a2_1) else (parolelaw37_OddsMatchesReference.j0 k l0 t103 (decide ((l1_1.length : Int) > 40)) l1_0 l1_1 a2_0 a2_1))) else (some false)) = some r := H
 have A4 := Aside0.mk A40
 clear A40
 by_cases c5 : t103 = true
 ·subst c5
  have H1 : (if (l0.length : Int) > 40 then (parolelaw37_OddsMatchesReference.j0 k l0 true true l1_0 l1_1 a2_0 a2_1) else (if (l1_0.length : Int) > 40 then (parolelaw37_OddsMatchesReference.j0 k l0 true true l1_0 l1_1 a2_0 a2_1) else (parolelaw37_OddsMatchesReference.j0 k l0 true (decide ((l1_1.length : Int) > 40)) l1_0 l1_1 a2_0 a2_1))) = some r := by rw [if_pos rfl] at H; exact H
  clear H
  have H := H1
  clear H1
  have HC6 := Aside0.mk H
  clear H
  go_enter Try.func3, Try.ntmps3
  go_upto_region 4 with (first | ((with_reducible refine gate_dst (N := 4) rfl ?_); (try (refine gate_guard (by rfl) ?_; dsimp only)); refine box_event ?hg (N := 4) ?hd (cs := #[.slice A1_0 l1_0.length c1_0, .slice A1_1 l1_1.length c1_1]) (t := 24) ?hr ?_; (case hd => rfl); (case hg => rfl); (case hr => first | (go_simp; done) | (go_simp; rfl)); intro gb101 hg w7 hbox hb; have n0_ := Aside0.mk (below_step (by repeat (first | (with_reducible first | exact HB.out | apply below_alloc | apply pw_below_drewN | apply below_drew1) | exact HB.out)) hb); have n1_ := Aside0.mk (hbox); have n2_ := Aside0.mk ((by rw [hg]; exact (below_size (by repeat (first | (with_reducible first | exact HB.out | apply below_alloc | apply pw_below_drewN | apply below_drew1) | exact HB.out))) : w.heap.size ≤ gb101)); have n3_ := Aside0.mk ((by rw [hg]; exact (below_size (by repeat (first | (with_reducible first | exact HB.out | apply below_alloc | apply pw_below_drewN | apply below_drew1) | exact HB.out))) : w.heap.size ≤ gb101)); clear HB; have HB := n0_; have BK101 := n1_; have GW101 := n2_; have GE101 := n3_; clear n0_ n1_ n2_ n3_; clear hb hbox hg) | ((with_reducible refine gate_dst (N := 5) rfl ?_); (try (refine gate_guard (by rfl) ?_; dsimp only)); refine box_event ?hg (N := 5) ?hd (cs := #[.int .i64 a2_0, .int .i64 a2_1]) (t := 25) ?hr ?_; (case hd => rfl); (case hg => rfl); (case hr => first | (go_simp; done) | (go_simp; rfl)); intro gb102 hg w8 hbox hb; have n0_ := Aside0.mk (blk_below (g := gb101) (o := .cells #[.slice A1_0 l1_0.length c1_0, .slice A1_1 l1_1.length c1_1] 24 (0, 0)) (by (with_reducible repeat (first | refine blk_drewN ?_ _ | refine blk_drew ?_ | refine blk_alloc ?_ _)); exact BK101.out) hb); have n1_ := Aside0.mk (below_step (by repeat (first | (with_reducible first | exact HB.out | apply below_alloc | apply pw_below_drewN | apply below_drew1 | refine below_set ?_ GE101.out) | exact HB.out)) hb); have n2_ := Aside0.mk (hbox); have n3_ := Aside0.mk ((by rw [hg]; exact (below_size (by repeat (first | (with_reducible first | exact HB.out | apply below_alloc | apply pw_below_drewN | apply below_drew1 | refine below_set ?_ GE101.out) | exact HB.out))) : w.heap.size ≤ gb102)); have n4_ := Aside0.mk ((by rw [hg]; exact (below_size (by repeat (first | (with_reducible first | exact HB.out | apply below_alloc | apply pw_below_drewN | apply below_drew1 | refine below_set ?_ GE101.out) | exact HB.out))) : w.heap.size ≤ gb102)); have n5_ := Aside0.mk ((by rw [hg]; exact Nat.ne_of_lt (blk_lt (g := gb101) (o := .cells #[.slice A1_0 l1_0.length c1_0, .slice A1_1 l1_1.length c1_1] 24 (0, 0)) (by (with_reducible repeat (first | refine blk_drewN ?_ _ | refine blk_drew ?_ | refine blk_alloc ?_ _)); exact BK101.out)) : gb101 ≠ gb102)); have n6_ := Aside0.mk ((by rw [hg]; exact Nat.ne_of_gt (blk_lt (g := gb101) (o := .cells #[.slice A1_0 l1_0.length c1_0, .slice A1_1 l1_1.length c1_1] 24 (0, 0)) (by (with_reducible repeat (first | refine blk_drewN ?_ _ | refine blk_drew ?_ | refine blk_alloc ?_ _)); exact BK101.out)) : gb102 ≠ gb101)); clear BK101; clear HB; have BK101 := n0_; have HB := n1_; have BK102 := n2_; have GW102 := n3_; have GE102 := n4_; have NB101_102 := n5_; have NB102_101 := n6_; clear n0_ n1_ n2_ n3_ n4_ n5_ n6_; clear hb hbox hg) | ((with_reducible refine gate_callee (f := 15) rfl ?_); refine goesL_ (some 11) rfl rfl Try.func15 (by kernel_rfl) rfl #[] rfl (by (try simp only [List.map_toArray, List.map_cons, List.map_nil]); first | done | rfl | (simp only [List.length_drop, List.length_take]; rfl)) ?_; (with_reducible refine (parolelaw37_examples.calls  true _ A4.out).mono ?_); rintro e w9 ⟨rfl, hb⟩; refine ⟨_, rfl, ?_⟩; have n0_ := Aside0.mk (blk_below (g := gb101) (o := .cells #[.slice A1_0 l1_0.length c1_0, .slice A1_1 l1_1.length c1_1] 24 (0, 0)) (by (with_reducible repeat (first | refine blk_drewN ?_ _ | refine blk_drew ?_ | refine blk_alloc ?_ _)); exact BK101.out) hb); have n1_ := Aside0.mk (blk_below (g := gb102) (o := .cells #[.int .i64 a2_0, .int .i64 a2_1] 25 (0, 0)) (by (with_reducible repeat (first | refine blk_drewN ?_ _ | refine blk_drew ?_ | refine blk_alloc ?_ _)); exact BK102.out) hb); have n2_ := Aside0.mk (below_step (by repeat (first | (with_reducible first | exact HB.out | apply below_alloc | apply pw_below_drewN | apply below_drew1 | refine below_set ?_ GE101.out | refine below_set ?_ GE102.out) | exact HB.out)) hb); clear BK101; clear BK102; clear HB; have BK101 := n0_; have BK102 := n1_; have HB := n2_; clear n0_ n1_ n2_; (try clear hb); (try clear hb2); (try clear hk); (try clear hi)))
  (try simp only [Act.put, List.setIfInBounds_toArray, List.set_cons_zero, List.set_cons_succ])
  go_cut [28] (fun v28 wc => ∃ (kq : Nat) (x28_5 : Bool), v28 = .bool x28_5 ∧ Aside0 (parolelaw37_OddsMatchesReference.j0 kq l0 true x28_5 l1_0 l1_1 a2_0 a2_1 = some r) ∧ Aside0 (kq ≤ k) ∧ Aside0 (wc.heap[gb101]? = some (.cells #[(.slice A1_0 l1_0.length c1_0), (.slice A1_1 l1_1.length c1_1)] 24 (0, 0))) ∧ Aside0 (wc.heap[gb102]? = some (.cells #[.int .i64 a2_0, .int .i64 a2_1] 25 (0, 0))) ∧ Aside0 (Below w.heap.size w wc))
  case first =>
   have H := HC6.out
   clear HC6
   by_cases c10 : (l0.length : Int) > 40
   ·rw [if_pos c10] at H
    have c10b0 : decide (40 < (l0.length : Int)) = true := decide_eq_true c10
    have c10b1 : decide (40 < l0.length) = true := decide_eq_true (by omega)
    clear c10
    (first | rw [c10b0] | (simp only [i64_w, i32_w]; rw [c10b0]) | skip)
    have H' := Aside0.mk H
    clear H
    go_wp2
    go_meet
    case rel => exact ⟨_, (true), (by first | rfl | (simp; done) | (simp [*]; done)), H', ⟨by first | omega | exact Nat.le_refl _⟩, ⟨by (with_reducible repeat (first | refine blk_drewN ?_ _ | refine blk_drew ?_ | refine blk_alloc ?_ _)); exact BK101.out⟩, ⟨by (with_reducible repeat (first | refine blk_drewN ?_ _ | refine blk_drew ?_ | refine blk_alloc ?_ _)); exact BK102.out⟩, ⟨by repeat (first | (with_reducible first | exact HB.out | apply below_alloc | apply pw_below_drewN | apply below_drew1 | refine below_set ?_ GE101.out | refine below_set ?_ GE102.out) | exact HB.out)⟩⟩
   ·rw [if_neg c10] at H
    have c10b0 : decide (40 < (l0.length : Int)) = false := decide_eq_false c10
    have c10b1 : decide (40 < l0.length) = false := decide_eq_false (by omega)
    clear c10
    (first | rw [c10b0] | (simp only [i64_w, i32_w]; rw [c10b0]) | skip)
    by_cases c11 : (l1_0.length : Int) > 40
    ·rw [if_pos c11] at H
     have c11b0 : decide (40 < (l1_0.length : Int)) = true := decide_eq_true c11
     have c11b1 : decide (40 < l1_0.length) = true := decide_eq_true (by omega)
     clear c11
     have H' := Aside0.mk H
     clear H
     have hnb12 := NB101_102.out
     have hnc12 := NB102_101.out
     have hcz13_0 : w9.cell? ⟨gb101, 0, none⟩ = some (.slice A1_0 l1_0.length c1_0) := (blk_cell BK101.out 0).trans rfl
     have hcz13_1 : w9.cell? ⟨gb101, 1, none⟩ = some (.slice A1_1 l1_1.length c1_1) := (blk_cell BK101.out 1).trans rfl
     have hfz13_0 := blk_frozen BK101.out 0
     have hfz13_1 := blk_frozen BK101.out 1
     go_wp2
     go_meet
     case rel => exact ⟨_, (true), (by first | rfl | (simp; done) | (simp [*]; done)), H', ⟨by first | omega | exact Nat.le_refl _⟩, ⟨by (with_reducible repeat (first | refine blk_drewN ?_ _ | refine blk_drew ?_ | refine blk_alloc ?_ _)); exact BK101.out⟩, ⟨by (with_reducible repeat (first | refine blk_drewN ?_ _ | refine blk_drew ?_ | refine blk_alloc ?_ _)); exact BK102.out⟩, ⟨by repeat (first | (with_reducible first | exact HB.out | apply below_alloc | apply pw_below_drewN | apply below_drew1 | refine below_set ?_ GE101.out | refine below_set ?_ GE102.out) | exact HB.out)⟩⟩
    ·rw [if_neg c11] at H
     have c11b0 : decide (40 < (l1_0.length : Int)) = false := decide_eq_false c11
     have c11b1 : decide (40 < l1_0.length) = false := decide_eq_false (by omega)
     clear c11
     have H' := Aside0.mk H
     clear H
     have hnb14 := NB101_102.out
     have hnc14 := NB102_101.out
     have hcz15_0 : w9.cell? ⟨gb101, 0, none⟩ = some (.slice A1_0 l1_0.length c1_0) := (blk_cell BK101.out 0).trans rfl
     have hcz15_1 : w9.cell? ⟨gb101, 1, none⟩ = some (.slice A1_1 l1_1.length c1_1) := (blk_cell BK101.out 1).trans rfl
     have hfz15_0 := blk_frozen BK101.out 0
     have hfz15_1 := blk_frozen BK101.out 1
     go_wp2
     go_meet
     case rel => exact ⟨_, (decide ((l1_1.length : Int) > 40)), (by first | rfl | (simp; done) | (simp [*]; done)), H', ⟨by first | omega | exact Nat.le_refl _⟩, ⟨by (with_reducible repeat (first | refine blk_drewN ?_ _ | refine blk_drew ?_ | refine blk_alloc ?_ _)); exact BK101.out⟩, ⟨by (with_reducible repeat (first | refine blk_drewN ?_ _ | refine blk_drew ?_ | refine blk_alloc ?_ _)); exact BK102.out⟩, ⟨by repeat (first | (with_reducible first | exact HB.out | apply below_alloc | apply pw_below_drewN | apply below_drew1 | refine below_set ?_ GE101.out | refine below_set ?_ GE102.out) | exact HB.out)⟩⟩
  case rest =>
   clear HC6
   try clear c1
   try clear p2
   try clear c3
   try clear c5
   try clear c10
   try clear c10b0
   try clear c10b1
   try clear c11
   try clear c11b0
   try clear c11b1
   try clear c12
   try clear c14
   try clear c15
   try clear hcz13_0
   try clear hcz13_1
   try clear hcz15_0
   try clear hcz15_1
   try clear hfz13_0
   try clear hfz13_1
   try clear hfz15_0
   try clear hfz15_1
   obtain ⟨kq, x28_5, rfl, HA, HJ5, BK101, BK102, HB⟩ := hcut
   cases kq with
   | zero => exact absurd HA.out (by simp [parolelaw37_OddsMatchesReference.j0])
   | succ kj5 =>
    have H := HA.out
    clear HA
    simp only [parolelaw37_OddsMatchesReference.j0] at H
    by_cases c16 : x28_5 = true
    ·subst c16
     have H1 : (some true) = some r := by rw [if_pos rfl] at H; exact H
     clear H
     have H := H1
     clear H1
     obtain rfl := Option.some.inj H
     go_wp2
     go_ret
     exact ⟨by first | rfl | (simp [errW_none, errW_some] <;> rfl) | (simp [*, errW_none, errW_some] <;> rfl), by repeat (first | (with_reducible first | exact HB.out | apply below_alloc | apply pw_below_drewN | apply below_drew1 | refine below_set ?_ GE101.out | refine below_set ?_ GE102.out) | exact HB.out)⟩
    ·replace c16 := Bool.eq_false_iff.mpr c16
     subst c16
     have H1 : ((paroleref37_Made.f kj5 l1_0).bind fun t104 => ((paroleref37_Made.f kj5 l1_1).bind fun t107 => ((odds_Right.f kj5 l0).bind fun t110 => ((paroleref37_Right.f kj5 l0).bind fun t111 => (if t110 = t111 then ((odds_Right.f kj5 t104).bind fun t112 => (if t112 = 0 then ((parolelaw37_joined.f kj5 t104 t107).bind fun bt113 => ((paroleref37_Join.f kj5 t104 t107).bind fun bt117 => ((parolelaw37_same.f kj5 bt113.1 bt113.2 bt117.1 bt117.2).bind fun t121 => (if t121 = true then ((odds_Of.f kj5 t104 a2_0).bind fun bt122 => ((paroleref37_Of.f kj5 t104 a2_0).bind fun bt124 => (if (!(bt122.1 == bt124.1) || (!(bt122.2 == bt124.2))) = true then (parolelaw37_OddsMatchesReference.j1 kj5 true t104 t107 true a2_0 a2_1) else ((parolelaw37_loss.f kj5 t104 a2_0 a2_1).bind fun bt126 => ((paroleref37_Loss.f kj5 t104 a2_0 a2_1).bind fun bt129 => (parolelaw37_OddsMatchesReference.j1 kj5 true t104 t107 ((!(bt126.1 == bt129.1) || (!(bt126.2.1 == bt129.2.1))) || (!(bt126.2.2 == bt129.2.2))) a2_0 a2_1)))))) else (parolelaw37_OddsMatchesReference.j1 kj5 true t104 t107 true a2_0 a2_1))))) else (parolelaw37_OddsMatchesReference.j1 kj5 true t104 t107 true a2_0 a2_1))) else (parolelaw37_OddsMatchesReference.j1 kj5 true t104 t107 true a2_0 a2_1)))))) = some r := by rw [if_neg (show ¬ (false = true) by decide)] at H; exact H
     clear H
     have H := H1
     clear H1
     replace H := Option.bind_eq_some_iff.mp H
     obtain ⟨t104, A170, H⟩ := H
     replace H : ((paroleref37_Made.f kj5 l1_1).bind fun t107 => ((odds_Right.f kj5 l0).bind fun t110 => ((paroleref37_Right.f kj5 l0).bind fun t111 => (if t110 = t111 then ((odds_Right.f kj5 t104).bind fun t112 => (if t112 = 0 then ((parolelaw37_joined.f kj5 t104 t107).bind fun bt113 => ((paroleref37_Join.f kj5 t104 t107).bind fun bt117 => ((parolelaw37_same.f kj5 bt113.1 bt113.2 bt117.1 bt117.2).bind fun t121 => (if t121 = true then ((odds_Of.f kj5 t104 a2_0).bind fun bt122 => ((paroleref37_Of.f kj5 t104 a2_0).bind fun bt124 => (if (!(bt122.1 == bt124.1) || (!(bt122.2 == bt124.2))) = true then (parolelaw37_OddsMatchesReference.j1 kj5 true t104 t107 true a2_0 a2_1) else ((parolelaw37_loss.f kj5 t104 a2_0 a2_1).bind fun bt126 => ((paroleref37_Loss.f kj5 t104 a2_0 a2_1).bind fun bt129 => (parolelaw37_OddsMatchesReference.j1 kj5 true t104 t107 ((!(bt126.1 == bt129.1) || (!(bt126.2.1 == bt129.2.1))) || (!(bt126.2.2 == bt129.2.2))) a2_0 a2_1)))))) else (parolelaw37_OddsMatchesReference.j1 kj5 true t104 t107 true a2_0 a2_1))))) else (parolelaw37_OddsMatchesReference.j1 kj5 true t104 t107 true a2_0 a2_1))) else (parolelaw37_OddsMatchesReference.j1 kj5 true t104 t107 true a2_0 a2_1))))) = some r := H
     have A17 := Aside0.mk A170
     clear A170
     replace H := Option.bind_eq_some_iff.mp H
     obtain ⟨t107, A180, H⟩ := H
     replace H : ((odds_Right.f kj5 l0).bind fun t110 => ((paroleref37_Right.f kj5 l0).bind fun t111 => (if t110 = t111 then ((odds_Right.f kj5 t104).bind fun t112 => (if t112 = 0 then ((parolelaw37_joined.f kj5 t104 t107).bind fun bt113 => ((paroleref37_Join.f kj5 t104 t107).bind fun bt117 => ((parolelaw37_same.f kj5 bt113.1 bt113.2 bt117.1 bt117.2).bind fun t121 => (if t121 = true then ((odds_Of.f kj5 t104 a2_0).bind fun bt122 => ((paroleref37_Of.f kj5 t104 a2_0).bind fun bt124 => (if (!(bt122.1 == bt124.1) || (!(bt122.2 == bt124.2))) = true then (parolelaw37_OddsMatchesReference.j1 kj5 true t104 t107 true a2_0 a2_1) else ((parolelaw37_loss.f kj5 t104 a2_0 a2_1).bind fun bt126 => ((paroleref37_Loss.f kj5 t104 a2_0 a2_1).bind fun bt129 => (parolelaw37_OddsMatchesReference.j1 kj5 true t104 t107 ((!(bt126.1 == bt129.1) || (!(bt126.2.1 == bt129.2.1))) || (!(bt126.2.2 == bt129.2.2))) a2_0 a2_1)))))) else (parolelaw37_OddsMatchesReference.j1 kj5 true t104 t107 true a2_0 a2_1))))) else (parolelaw37_OddsMatchesReference.j1 kj5 true t104 t107 true a2_0 a2_1))) else (parolelaw37_OddsMatchesReference.j1 kj5 true t104 t107 true a2_0 a2_1)))) = some r := H
     have A18 := Aside0.mk A180
     clear A180
     have HC19 := Aside0.mk H
     clear H
     try go_wp2
     have n0_ := Aside0.mk (blk_drew BK101.out)
     have n1_ := Aside0.mk (blk_drew BK102.out)
     have n2_ := Aside0.mk (below_drew1 HB.out)
     clear BK101 BK102 HB; have BK101 := n0_; have BK102 := n1_; have HB := n2_; clear n0_ n1_ n2_
     refine start_ (n := 8) (S := fun w' => w'.cell? ⟨gb101, 0, none⟩ = some (.slice A1_0 l1_0.length c1_0) ∧ w'.cell? ⟨gb101, 1, none⟩ = some (.slice A1_1 l1_1.length c1_1)) (ds := []) #[false, false, false, false, false, false, false, false] (by kernel_rfl) rfl rfl ⟨(blk_cell BK101.out 0).trans rfl, (blk_cell BK101.out 1).trans rfl⟩ (fun hHeld => ?_); refine with_tabW parolelaw37_OddsMatchesReference.tab6 parolelaw37_OddsMatchesReference.bits6 (fun HT_ HW_ => ?_)
     generalize wc.drew = w20 at BK101 BK102 HB hHeld ⊢
     refine pX (i := 0) (N := some 30) rfl rfl HT_ ?_
     refine pX (i := 3) (N := some 33) rfl rfl HT_ ?_
     refine tX (i := 1) (N := some 31) rfl rfl HT_ HW_ hHeld (Or.inl ⟨by rfl, by rintro w' ⟨s0, s1⟩; go_simp; with_reducible rfl⟩) ?_
     refine tX (i := 4) (N := some 34) rfl rfl HT_ HW_ hHeld (Or.inl ⟨by rfl, by rintro w' ⟨s0, s1⟩; go_simp; with_reducible rfl⟩) ?_
     refine oX (i := 2) (N := some 32) rfl rfl HT_ (fun K hK => ?_)
     refine goes_ Try.func16 (by kernel_rfl) rfl #[.slice A1_0 l1_0.length c1_0] (by rfl) rfl rfl (by (try simp only [List.map_toArray, List.map_cons, List.map_nil]); first | done | rfl | (simp only [List.length_drop, List.length_take]; rfl)) ?_
     with_reducible refine (paroleref37_Made.calls kj5 _ _ l1_0 t104 _ ?side1 ?side2 A17.out).mono ?_
     (case side1 => repeat (first | exact (Kd.C_below HR1_0.out HB.out) | (with_reducible refine Kd.C_alloc ?_ _) | (with_reducible refine Kd.C_drewN ?_ _) | (with_reducible refine Kd.C_drew ?_)))
     (case side2 => exact HC1_0.out)
     rintro e w21 ⟨v105, rfl, ho0, hb⟩
     refine ⟨_, rfl, ?_⟩
     have n0_ := Aside0.mk (Kd.R_lower ho0 (below_size (by repeat (first | (with_reducible first | exact HB.out | apply below_alloc | apply pw_below_drewN | apply below_drew1 | refine below_set ?_ GE101.out | refine below_set ?_ GE102.out) | exact HB.out))))
     have n1_ := Aside0.mk (blk_below (g := gb101) (o := .cells #[.slice A1_0 l1_0.length c1_0, .slice A1_1 l1_1.length c1_1] 24 (0, 0)) (by (with_reducible repeat (first | refine blk_drewN ?_ _ | refine blk_drew ?_ | refine blk_alloc ?_ _)); exact BK101.out) hb)
     have n2_ := Aside0.mk (blk_below (g := gb102) (o := .cells #[.int .i64 a2_0, .int .i64 a2_1] 25 (0, 0)) (by (with_reducible repeat (first | refine blk_drewN ?_ _ | refine blk_drew ?_ | refine blk_alloc ?_ _)); exact BK102.out) hb)
     have n3_ := Aside0.mk (below_step (by repeat (first | (with_reducible first | exact HB.out | apply below_alloc | apply pw_below_drewN | apply below_drew1 | refine below_set ?_ GE101.out | refine below_set ?_ GE102.out) | exact HB.out)) hb)
     clear BK101 BK102 HB; have HO106 := n0_; have BK101 := n1_; have BK102 := n2_; have HB := n3_; clear n0_ n1_ n2_ n3_; (try clear hb); (try clear hb2); (try clear hk); (try clear hi); (try clear ho0)
     refine hK.out _ _ ⟨(blk_cell BK101.out 0).trans rfl, (blk_cell BK101.out 1).trans rfl⟩ (fun hHeld => ?_)
     clear hK K
     refine nX (some 32) ?_
     refine oX (i := 5) (N := some 35) rfl rfl HT_ (fun K hK => ?_)
     refine goes_ Try.func16 (by kernel_rfl) rfl #[.slice A1_1 l1_1.length c1_1] (by rfl) rfl rfl (by (try simp only [List.map_toArray, List.map_cons, List.map_nil]); first | done | rfl | (simp only [List.length_drop, List.length_take]; rfl)) ?_
     with_reducible refine (paroleref37_Made.calls kj5 _ _ l1_1 t107 _ ?side1 ?side2 A18.out).mono ?_
     (case side1 => repeat (first | exact (Kd.C_below HR1_1.out HB.out) | (with_reducible refine Kd.C_alloc ?_ _) | (with_reducible refine Kd.C_drewN ?_ _) | (with_reducible refine Kd.C_drew ?_)))
     (case side2 => exact HC1_1.out)
     rintro e w22 ⟨v108, rfl, ho0, hb⟩
     refine ⟨_, rfl, ?_⟩
     have n0_ := Aside0.mk (Kd.R_elder' (by (with_reducible repeat (first | apply Kd.R_alloc | apply Kd.R_drewN | apply Kd.R_drew)); exact HO106.out) (Kd.R_base ho0) hb)
     have n1_ := Aside0.mk (Kd.R_lower (Kd.R_new' ho0 (Kd.R_lt (by (with_reducible repeat (first | apply Kd.R_alloc | apply Kd.R_drewN | apply Kd.R_drew)); exact HO106.out))) (below_size (by repeat (first | (with_reducible first | exact HB.out | apply below_alloc | apply pw_below_drewN | apply below_drew1 | refine below_set ?_ GE101.out | refine below_set ?_ GE102.out) | exact HB.out))))
     have n2_ := Aside0.mk (blk_below (g := gb101) (o := .cells #[.slice A1_0 l1_0.length c1_0, .slice A1_1 l1_1.length c1_1] 24 (0, 0)) (by (with_reducible repeat (first | refine blk_drewN ?_ _ | refine blk_drew ?_ | refine blk_alloc ?_ _)); exact BK101.out) hb)
     have n3_ := Aside0.mk (blk_below (g := gb102) (o := .cells #[.int .i64 a2_0, .int .i64 a2_1] 25 (0, 0)) (by (with_reducible repeat (first | refine blk_drewN ?_ _ | refine blk_drew ?_ | refine blk_alloc ?_ _)); exact BK102.out) hb)
     have n4_ := Aside0.mk (below_step (by repeat (first | (with_reducible first | exact HB.out | apply below_alloc | apply pw_below_drewN | apply below_drew1 | refine below_set ?_ GE101.out | refine below_set ?_ GE102.out) | exact HB.out)) hb)
     clear HO106 BK101 BK102 HB; have HO106 := n0_; have HO109 := n1_; have BK101 := n2_; have BK102 := n3_; have HB := n4_; clear n0_ n1_ n2_ n3_ n4_; (try clear hb); (try clear hb2); (try clear hk); (try clear hi); (try clear ho0)
     refine hK.out _ _ ⟨(blk_cell BK101.out 0).trans rfl, (blk_cell BK101.out 1).trans rfl⟩ (fun hHeld => ?_)
     clear hK K
     refine nX (some 35) ?_
     refine pX (i := 6) (N := some 8) rfl rfl HT_ ?_
     refine pX (i := 7) (N := some 9) rfl rfl HT_ ?_
     refine done_ (done_of HT_.out (by kernel_rfl)) ?_
     go_upto_region 7 with (fail)
     go_cut [81] (fun v81 wc => ∃ (kq : Nat) (x81_18 : Bool), v81 = .bool x81_18 ∧ Aside0 (parolelaw37_OddsMatchesReference.j1 kq true t104 t107 x81_18 a2_0 a2_1 = some r) ∧ Aside0 (kq ≤ kj5) ∧ Aside0 (Kd.R k71 71 wc w.heap.size (fun k_ => some k_ ≠ (v108 : Value).ownBlock) v105 t104) ∧ Aside0 (Kd.R k71 71 wc w.heap.size (fun k_ => some k_ ≠ (v105 : Value).ownBlock) v108 t107) ∧ Aside0 (wc.heap[gb101]? = some (.cells #[(.slice A1_0 l1_0.length c1_0), (.slice A1_1 l1_1.length c1_1)] 24 (0, 0))) ∧ Aside0 (wc.heap[gb102]? = some (.cells #[.int .i64 a2_0, .int .i64 a2_1] 25 (0, 0))) ∧ Aside0 (Below w.heap.size w wc))
     case first =>
      have H := HC19.out
      clear HC19
      replace H := Option.bind_eq_some_iff.mp H
      obtain ⟨t110, A230, H⟩ := H
      replace H : ((paroleref37_Right.f kj5 l0).bind fun t111 => (if t110 = t111 then ((odds_Right.f kj5 t104).bind fun t112 => (if t112 = 0 then ((parolelaw37_joined.f kj5 t104 t107).bind fun bt113 => ((paroleref37_Join.f kj5 t104 t107).bind fun bt117 => ((parolelaw37_same.f kj5 bt113.1 bt113.2 bt117.1 bt117.2).bind fun t121 => (if t121 = true then ((odds_Of.f kj5 t104 a2_0).bind fun bt122 => ((paroleref37_Of.f kj5 t104 a2_0).bind fun bt124 => (if (!(bt122.1 == bt124.1) || (!(bt122.2 == bt124.2))) = true then (parolelaw37_OddsMatchesReference.j1 kj5 true t104 t107 true a2_0 a2_1) else ((parolelaw37_loss.f kj5 t104 a2_0 a2_1).bind fun bt126 => ((paroleref37_Loss.f kj5 t104 a2_0 a2_1).bind fun bt129 => (parolelaw37_OddsMatchesReference.j1 kj5 true t104 t107 ((!(bt126.1 == bt129.1) || (!(bt126.2.1 == bt129.2.1))) || (!(bt126.2.2 == bt129.2.2))) a2_0 a2_1)))))) else (parolelaw37_OddsMatchesReference.j1 kj5 true t104 t107 true a2_0 a2_1))))) else (parolelaw37_OddsMatchesReference.j1 kj5 true t104 t107 true a2_0 a2_1))) else (parolelaw37_OddsMatchesReference.j1 kj5 true t104 t107 true a2_0 a2_1))) = some r := H
      have A23 := Aside0.mk A230
      clear A230
      replace H := Option.bind_eq_some_iff.mp H
      obtain ⟨t111, A240, H⟩ := H
      replace H : (if t110 = t111 then ((odds_Right.f kj5 t104).bind fun t112 => (if t112 = 0 then ((parolelaw37_joined.f kj5 t104 t107).bind fun bt113 => ((paroleref37_Join.f kj5 t104 t107).bind fun bt117 => ((parolelaw37_same.f kj5 bt113.1 bt113.2 bt117.1 bt117.2).bind fun t121 => (if t121 = true then ((odds_Of.f kj5 t104 a2_0).bind fun bt122 => ((paroleref37_Of.f kj5 t104 a2_0).bind fun bt124 => (if (!(bt122.1 == bt124.1) || (!(bt122.2 == bt124.2))) = true then (parolelaw37_OddsMatchesReference.j1 kj5 true t104 t107 true a2_0 a2_1) else ((parolelaw37_loss.f kj5 t104 a2_0 a2_1).bind fun bt126 => ((paroleref37_Loss.f kj5 t104 a2_0 a2_1).bind fun bt129 => (parolelaw37_OddsMatchesReference.j1 kj5 true t104 t107 ((!(bt126.1 == bt129.1) || (!(bt126.2.1 == bt129.2.1))) || (!(bt126.2.2 == bt129.2.2))) a2_0 a2_1)))))) else (parolelaw37_OddsMatchesReference.j1 kj5 true t104 t107 true a2_0 a2_1))))) else (parolelaw37_OddsMatchesReference.j1 kj5 true t104 t107 true a2_0 a2_1))) else (parolelaw37_OddsMatchesReference.j1 kj5 true t104 t107 true a2_0 a2_1)) = some r := H
      have A24 := Aside0.mk A240
      clear A240
      by_cases c25 : t110 = t111
      ·rw [if_pos c25] at H
       have c25b0 : (t110 == t111) = true := beq_iff_eq.mpr c25
       have c25b1 : (t110 != t111) = false := bne_eq_false_iff_eq.mpr c25
       clear c25
       (first | rw [c25b0] | (simp only [i64_w, i32_w]; rw [c25b0]) | skip)
       replace H := Option.bind_eq_some_iff.mp H
       obtain ⟨t112, A260, H⟩ := H
       replace H : (if t112 = 0 then ((parolelaw37_joined.f kj5 t104 t107).bind fun bt113 => ((paroleref37_Join.f kj5 t104 t107).bind fun bt117 => ((parolelaw37_same.f kj5 bt113.1 bt113.2 bt117.1 bt117.2).bind fun t121 => (if t121 = true then ((odds_Of.f kj5 t104 a2_0).bind fun bt122 => ((paroleref37_Of.f kj5 t104 a2_0).bind fun bt124 => (if (!(bt122.1 == bt124.1) || (!(bt122.2 == bt124.2))) = true then (parolelaw37_OddsMatchesReference.j1 kj5 true t104 t107 true a2_0 a2_1) else ((parolelaw37_loss.f kj5 t104 a2_0 a2_1).bind fun bt126 => ((paroleref37_Loss.f kj5 t104 a2_0 a2_1).bind fun bt129 => (parolelaw37_OddsMatchesReference.j1 kj5 true t104 t107 ((!(bt126.1 == bt129.1) || (!(bt126.2.1 == bt129.2.1))) || (!(bt126.2.2 == bt129.2.2))) a2_0 a2_1)))))) else (parolelaw37_OddsMatchesReference.j1 kj5 true t104 t107 true a2_0 a2_1))))) else (parolelaw37_OddsMatchesReference.j1 kj5 true t104 t107 true a2_0 a2_1)) = some r := H
       have A26 := Aside0.mk A260
       clear A260
       by_cases c27 : t112 = 0
       ·rw [if_pos c27] at H
        have c27b0 : (t112 == 0) = true := beq_iff_eq.mpr c27
        have c27b1 : (t112 != 0) = false := bne_eq_false_iff_eq.mpr c27
        clear c27
        replace H := Option.bind_eq_some_iff.mp H
        obtain ⟨⟨t113, t116⟩, A280, H⟩ := H
        replace H : ((paroleref37_Join.f kj5 t104 t107).bind fun bt117 => ((parolelaw37_same.f kj5 t113 t116 bt117.1 bt117.2).bind fun t121 => (if t121 = true then ((odds_Of.f kj5 t104 a2_0).bind fun bt122 => ((paroleref37_Of.f kj5 t104 a2_0).bind fun bt124 => (if (!(bt122.1 == bt124.1) || (!(bt122.2 == bt124.2))) = true then (parolelaw37_OddsMatchesReference.j1 kj5 true t104 t107 true a2_0 a2_1) else ((parolelaw37_loss.f kj5 t104 a2_0 a2_1).bind fun bt126 => ((paroleref37_Loss.f kj5 t104 a2_0 a2_1).bind fun bt129 => (parolelaw37_OddsMatchesReference.j1 kj5 true t104 t107 ((!(bt126.1 == bt129.1) || (!(bt126.2.1 == bt129.2.1))) || (!(bt126.2.2 == bt129.2.2))) a2_0 a2_1)))))) else (parolelaw37_OddsMatchesReference.j1 kj5 true t104 t107 true a2_0 a2_1)))) = some r := H
        have A28 := Aside0.mk A280
        clear A280
        replace H := Option.bind_eq_some_iff.mp H
        obtain ⟨⟨t117, t120⟩, A290, H⟩ := H
        replace H : ((parolelaw37_same.f kj5 t113 t116 t117 t120).bind fun t121 => (if t121 = true then ((odds_Of.f kj5 t104 a2_0).bind fun bt122 => ((paroleref37_Of.f kj5 t104 a2_0).bind fun bt124 => (if (!(bt122.1 == bt124.1) || (!(bt122.2 == bt124.2))) = true then (parolelaw37_OddsMatchesReference.j1 kj5 true t104 t107 true a2_0 a2_1) else ((parolelaw37_loss.f kj5 t104 a2_0 a2_1).bind fun bt126 => ((paroleref37_Loss.f kj5 t104 a2_0 a2_1).bind fun bt129 => (parolelaw37_OddsMatchesReference.j1 kj5 true t104 t107 ((!(bt126.1 == bt129.1) || (!(bt126.2.1 == bt129.2.1))) || (!(bt126.2.2 == bt129.2.2))) a2_0 a2_1)))))) else (parolelaw37_OddsMatchesReference.j1 kj5 true t104 t107 true a2_0 a2_1))) = some r := H
        have A29 := Aside0.mk A290
        clear A290
        replace H := Option.bind_eq_some_iff.mp H
        obtain ⟨t121, A300, H⟩ := H
        replace H : (if t121 = true then ((odds_Of.f kj5 t104 a2_0).bind fun bt122 => ((paroleref37_Of.f kj5 t104 a2_0).bind fun bt124 => (if (!(bt122.1 == bt124.1) || (!(bt122.2 == bt124.2))) = true then (parolelaw37_OddsMatchesReference.j1 kj5 true t104 t107 true a2_0 a2_1) else ((parolelaw37_loss.f kj5 t104 a2_0 a2_1).bind fun bt126 => ((paroleref37_Loss.f kj5 t104 a2_0 a2_1).bind fun bt129 => (parolelaw37_OddsMatchesReference.j1 kj5 true t104 t107 ((!(bt126.1 == bt129.1) || (!(bt126.2.1 == bt129.2.1))) || (!(bt126.2.2 == bt129.2.2))) a2_0 a2_1)))))) else (parolelaw37_OddsMatchesReference.j1 kj5 true t104 t107 true a2_0 a2_1)) = some r := H
        have A30 := Aside0.mk A300
        clear A300
        by_cases c31 : t121 = true
        ·subst c31
         have H1 : ((odds_Of.f kj5 t104 a2_0).bind fun bt122 => ((paroleref37_Of.f kj5 t104 a2_0).bind fun bt124 => (if (!(bt122.1 == bt124.1) || (!(bt122.2 == bt124.2))) = true then (parolelaw37_OddsMatchesReference.j1 kj5 true t104 t107 true a2_0 a2_1) else ((parolelaw37_loss.f kj5 t104 a2_0 a2_1).bind fun bt126 => ((paroleref37_Loss.f kj5 t104 a2_0 a2_1).bind fun bt129 => (parolelaw37_OddsMatchesReference.j1 kj5 true t104 t107 ((!(bt126.1 == bt129.1) || (!(bt126.2.1 == bt129.2.1))) || (!(bt126.2.2 == bt129.2.2))) a2_0 a2_1)))))) = some r := by rw [if_pos rfl] at H; exact H
         clear H
         have H := H1
         clear H1
         replace H := Option.bind_eq_some_iff.mp H
         obtain ⟨⟨t122, t123⟩, A320, H⟩ := H
         replace H : ((paroleref37_Of.f kj5 t104 a2_0).bind fun bt124 => (if (!(t122 == bt124.1) || (!(t123 == bt124.2))) = true then (parolelaw37_OddsMatchesReference.j1 kj5 true t104 t107 true a2_0 a2_1) else ((parolelaw37_loss.f kj5 t104 a2_0 a2_1).bind fun bt126 => ((paroleref37_Loss.f kj5 t104 a2_0 a2_1).bind fun bt129 => (parolelaw37_OddsMatchesReference.j1 kj5 true t104 t107 ((!(bt126.1 == bt129.1) || (!(bt126.2.1 == bt129.2.1))) || (!(bt126.2.2 == bt129.2.2))) a2_0 a2_1))))) = some r := H
         have A32 := Aside0.mk A320
         clear A320
         replace H := Option.bind_eq_some_iff.mp H
         obtain ⟨⟨t124, t125⟩, A330, H⟩ := H
         replace H : (if (!(t122 == t124) || (!(t123 == t125))) = true then (parolelaw37_OddsMatchesReference.j1 kj5 true t104 t107 true a2_0 a2_1) else ((parolelaw37_loss.f kj5 t104 a2_0 a2_1).bind fun bt126 => ((paroleref37_Loss.f kj5 t104 a2_0 a2_1).bind fun bt129 => (parolelaw37_OddsMatchesReference.j1 kj5 true t104 t107 ((!(bt126.1 == bt129.1) || (!(bt126.2.1 == bt129.2.1))) || (!(bt126.2.2 == bt129.2.2))) a2_0 a2_1)))) = some r := H
         have A33 := Aside0.mk A330
         clear A330
         by_cases c34 : (!(t122 == t124) || (!(t123 == t125))) = true
         ·rw [if_pos c34] at H
          have c34b0 : (!(t122 == t124) || (!(t123 == t125))) = true := c34
          clear c34
          have H' := Aside0.mk H
          clear H
          try go_wp2
          have n0_ := Aside0.mk (Kd.R_drew HO106.out)
          have n1_ := Aside0.mk (Kd.R_drew HO109.out)
          have n2_ := Aside0.mk (blk_drew BK101.out)
          have n3_ := Aside0.mk (blk_drew BK102.out)
          have n4_ := Aside0.mk (below_drew1 HB.out)
          clear HO106 HO109 BK101 BK102 HB; have HO106 := n0_; have HO109 := n1_; have BK101 := n2_; have BK102 := n3_; have HB := n4_; clear n0_ n1_ n2_ n3_ n4_
          refine start_ (n := 46) (S := fun w' => w'.cell? ⟨gb102, 0, none⟩ = some (.int .i64 a2_0) ∧ w'.cell? ⟨gb102, 1, none⟩ = some (.int .i64 a2_1)) (ds := []) #[false, false, false, false, false, false, false, false, false, false, false, false, false, false, false, false, false, false, false, false, false, false, false, false, false, false, false, false, false, false, false, false, false, false, false, false, false, false, false, false, false, false, false, false, false, false] (by kernel_rfl) rfl rfl ⟨(blk_cell BK102.out 0).trans rfl, (blk_cell BK102.out 1).trans rfl⟩ (fun hHeld => ?_); refine with_tabW parolelaw37_OddsMatchesReference.tab7 parolelaw37_OddsMatchesReference.bits7 (fun HT_ HW_ => ?_)
          generalize w22.drew = w35 at HO106 HO109 BK101 BK102 HB hHeld ⊢
          refine pX (i := 0) (N := some 36) rfl rfl HT_ ?_
          refine pX (i := 2) (N := some 38) rfl rfl HT_ ?_
          refine oX (i := 1) (N := some 37) rfl rfl HT_ (fun K hK => ?_)
          refine goes_ Try.func17 (by kernel_rfl) rfl #[.slice A0 l0.length c0] (by rfl) rfl rfl (by (try simp only [List.map_toArray, List.map_cons, List.map_nil]); first | done | rfl | (simp only [List.length_drop, List.length_take]; rfl)) ?_
          with_reducible refine (odds_Right.calls kj5 _ _ l0 t110 _ ?side1 ?side2 A23.out).mono ?_
          (case side1 => repeat (first | exact (Kd.C_below HR0.out HB.out) | (with_reducible refine Kd.C_alloc ?_ _) | (with_reducible refine Kd.C_drewN ?_ _) | (with_reducible refine Kd.C_drew ?_)))
          (case side2 => exact HC0.out)
          rintro e w36 ⟨rfl, hb⟩
          refine ⟨_, rfl, ?_⟩
          have n0_ := Aside0.mk (Kd.R_below (by (with_reducible repeat (first | apply Kd.R_alloc | apply Kd.R_drewN | apply Kd.R_drew)); exact HO106.out) hb)
          have n1_ := Aside0.mk (Kd.R_below (by (with_reducible repeat (first | apply Kd.R_alloc | apply Kd.R_drewN | apply Kd.R_drew)); exact HO109.out) hb)
          have n2_ := Aside0.mk (blk_below (g := gb101) (o := .cells #[.slice A1_0 l1_0.length c1_0, .slice A1_1 l1_1.length c1_1] 24 (0, 0)) (by (with_reducible repeat (first | refine blk_drewN ?_ _ | refine blk_drew ?_ | refine blk_alloc ?_ _)); exact BK101.out) hb)
          have n3_ := Aside0.mk (blk_below (g := gb102) (o := .cells #[.int .i64 a2_0, .int .i64 a2_1] 25 (0, 0)) (by (with_reducible repeat (first | refine blk_drewN ?_ _ | refine blk_drew ?_ | refine blk_alloc ?_ _)); exact BK102.out) hb)
          have n4_ := Aside0.mk (below_step (by repeat (first | (with_reducible first | exact HB.out | apply below_alloc | apply pw_below_drewN | apply below_drew1 | refine below_set ?_ GE101.out | refine below_set ?_ GE102.out) | exact HB.out)) hb)
          clear HO106 HO109 BK101 BK102 HB; have HO106 := n0_; have HO109 := n1_; have BK101 := n2_; have BK102 := n3_; have HB := n4_; clear n0_ n1_ n2_ n3_ n4_; (try clear hb); (try clear hb2); (try clear hk); (try clear hi)
          refine hK.out _ _ ⟨(blk_cell BK102.out 0).trans rfl, (blk_cell BK102.out 1).trans rfl⟩ (fun hHeld => ?_)
          clear hK K
          refine nX (some 37) ?_
          refine oX (i := 3) (N := some 39) rfl rfl HT_ (fun K hK => ?_)
          refine goes_ Try.func18 (by kernel_rfl) rfl #[.slice A0 l0.length c0] (by rfl) rfl rfl (by (try simp only [List.map_toArray, List.map_cons, List.map_nil]); first | done | rfl | (simp only [List.length_drop, List.length_take]; rfl)) ?_
          with_reducible refine (paroleref37_Right.calls kj5 _ _ l0 t111 _ ?side1 ?side2 A24.out).mono ?_
          (case side1 => repeat (first | exact (Kd.C_below HR0.out HB.out) | (with_reducible refine Kd.C_alloc ?_ _) | (with_reducible refine Kd.C_drewN ?_ _) | (with_reducible refine Kd.C_drew ?_)))
          (case side2 => exact HC0.out)
          rintro e w37 ⟨rfl, hb⟩
          refine ⟨_, rfl, ?_⟩
          have n0_ := Aside0.mk (Kd.R_below (by (with_reducible repeat (first | apply Kd.R_alloc | apply Kd.R_drewN | apply Kd.R_drew)); exact HO106.out) hb)
          have n1_ := Aside0.mk (Kd.R_below (by (with_reducible repeat (first | apply Kd.R_alloc | apply Kd.R_drewN | apply Kd.R_drew)); exact HO109.out) hb)
          have n2_ := Aside0.mk (blk_below (g := gb101) (o := .cells #[.slice A1_0 l1_0.length c1_0, .slice A1_1 l1_1.length c1_1] 24 (0, 0)) (by (with_reducible repeat (first | refine blk_drewN ?_ _ | refine blk_drew ?_ | refine blk_alloc ?_ _)); exact BK101.out) hb)
          have n3_ := Aside0.mk (blk_below (g := gb102) (o := .cells #[.int .i64 a2_0, .int .i64 a2_1] 25 (0, 0)) (by (with_reducible repeat (first | refine blk_drewN ?_ _ | refine blk_drew ?_ | refine blk_alloc ?_ _)); exact BK102.out) hb)
          have n4_ := Aside0.mk (below_step (by repeat (first | (with_reducible first | exact HB.out | apply below_alloc | apply pw_below_drewN | apply below_drew1 | refine below_set ?_ GE101.out | refine below_set ?_ GE102.out) | exact HB.out)) hb)
          clear HO106 HO109 BK101 BK102 HB; have HO106 := n0_; have HO109 := n1_; have BK101 := n2_; have BK102 := n3_; have HB := n4_; clear n0_ n1_ n2_ n3_ n4_; (try clear hb); (try clear hb2); (try clear hk); (try clear hi)
          obtain ⟨Ao38, co38, eo38⟩ := Kd.R_slice HO106.out
          (first | subst eo38 | (injection eo38 with f1_ f2_ f3_; have f4_ := f1_.symm; have f5_ := f3_.symm; clear f1_ f2_ f3_; subst f4_; subst f5_))
          refine hK.out _ _ ⟨(blk_cell BK102.out 0).trans rfl, (blk_cell BK102.out 1).trans rfl⟩ (fun hHeld => ?_)
          clear hK K
          refine nX (some 39) ?_
          refine pX (i := 4) (N := some 40) rfl rfl HT_ ?_
          refine pX (i := 5) (N := some 41) rfl rfl HT_ ?_
          refine pX (i := 6) (N := some 42) rfl rfl HT_ ?_
          refine oX (i := 7) (N := some 43) rfl rfl HT_ (fun K hK => ?_)
          refine goes_ Try.func17 (by kernel_rfl) rfl #[.slice Ao38 t104.length co38] (by rfl) rfl rfl (by (try simp only [List.map_toArray, List.map_cons, List.map_nil]); first | done | rfl | (simp only [List.length_drop, List.length_take]; rfl)) ?_
          with_reducible refine (odds_Right.calls kj5 _ _ t104 t112 _ ?side1 ?side2 A26.out).mono ?_
          (case side1 => repeat (first | exact (Kd.R_reads' HO106.out).2.2 | (with_reducible refine Kd.C_alloc ?_ _) | (with_reducible refine Kd.C_drewN ?_ _) | (with_reducible refine Kd.C_drew ?_)))
          (case side2 => exact (Kd.R_reads' HO106.out).2.1)
          rintro e w39 ⟨rfl, hb⟩
          refine ⟨_, rfl, ?_⟩
          have n0_ := Aside0.mk (Kd.R_below (by (with_reducible repeat (first | apply Kd.R_alloc | apply Kd.R_drewN | apply Kd.R_drew)); exact HO106.out) hb)
          have n1_ := Aside0.mk (Kd.R_below (by (with_reducible repeat (first | apply Kd.R_alloc | apply Kd.R_drewN | apply Kd.R_drew)); exact HO109.out) hb)
          have n2_ := Aside0.mk (blk_below (g := gb101) (o := .cells #[.slice A1_0 l1_0.length c1_0, .slice A1_1 l1_1.length c1_1] 24 (0, 0)) (by (with_reducible repeat (first | refine blk_drewN ?_ _ | refine blk_drew ?_ | refine blk_alloc ?_ _)); exact BK101.out) hb)
          have n3_ := Aside0.mk (blk_below (g := gb102) (o := .cells #[.int .i64 a2_0, .int .i64 a2_1] 25 (0, 0)) (by (with_reducible repeat (first | refine blk_drewN ?_ _ | refine blk_drew ?_ | refine blk_alloc ?_ _)); exact BK102.out) hb)
          have n4_ := Aside0.mk (below_step (by repeat (first | (with_reducible first | exact HB.out | apply below_alloc | apply pw_below_drewN | apply below_drew1 | refine below_set ?_ GE101.out | refine below_set ?_ GE102.out) | exact HB.out)) hb)
          clear HO106 HO109 BK101 BK102 HB; have HO106 := n0_; have HO109 := n1_; have BK101 := n2_; have BK102 := n3_; have HB := n4_; clear n0_ n1_ n2_ n3_ n4_; (try clear hb); (try clear hb2); (try clear hk); (try clear hi)
          obtain ⟨Ao40, co40, eo40⟩ := Kd.R_slice HO109.out
          (first | subst eo40 | (injection eo40 with f1_ f2_ f3_; have f4_ := f1_.symm; have f5_ := f3_.symm; clear f1_ f2_ f3_; subst f4_; subst f5_))
          refine hK.out _ _ ⟨(blk_cell BK102.out 0).trans rfl, (blk_cell BK102.out 1).trans rfl⟩ (fun hHeld => ?_)
          clear hK K
          refine nX (some 43) ?_
          refine pX (i := 8) (N := some 44) rfl rfl HT_ ?_
          refine pX (i := 9) (N := some 45) rfl rfl HT_ ?_
          refine pX (i := 10) (N := some 46) rfl rfl HT_ ?_
          refine pX (i := 11) (N := some 47) rfl rfl HT_ ?_
          refine pX (i := 12) (N := some 48) rfl rfl HT_ ?_
          refine pX (i := 14) (N := some 50) rfl rfl HT_ ?_
          refine pX (i := 15) (N := some 51) rfl rfl HT_ ?_
          refine oX (i := 13) (N := some 49) rfl rfl HT_ (fun K hK => ?_)
          refine goes_ Try.func20 (by kernel_rfl) rfl #[.slice Ao38 t104.length co38, .slice Ao40 t107.length co40] (by rfl) rfl rfl (by (try simp only [List.map_toArray, List.map_cons, List.map_nil]); first | done | rfl | (simp only [List.length_drop, List.length_take]; rfl)) ?_
          with_reducible refine (parolelaw37_joined.calls kj5 _ _ t104 _ _ t107 t113 t116 _ ?side1 ?side2 ?side3 ?side4 A28.out).mono ?_
          (case side1 => repeat (first | exact (Kd.R_reads' HO106.out).2.2 | (with_reducible refine Kd.C_alloc ?_ _) | (with_reducible refine Kd.C_drewN ?_ _) | (with_reducible refine Kd.C_drew ?_)))
          (case side2 => exact (Kd.R_reads' HO106.out).2.1)
          (case side3 => repeat (first | exact (Kd.R_reads' HO109.out).2.2 | (with_reducible refine Kd.C_alloc ?_ _) | (with_reducible refine Kd.C_drewN ?_ _) | (with_reducible refine Kd.C_drew ?_)))
          (case side4 => exact (Kd.R_reads' HO109.out).2.1)
          rintro e w41 ⟨v114, rfl, ho0, hb⟩
          refine ⟨_, rfl, ?_⟩
          have n0_ := Aside0.mk (Kd.R_elder' (by (with_reducible repeat (first | apply Kd.R_alloc | apply Kd.R_drewN | apply Kd.R_drew)); exact HO106.out) (Kd.R_base ho0) hb)
          have n1_ := Aside0.mk (Kd.R_elder' (by (with_reducible repeat (first | apply Kd.R_alloc | apply Kd.R_drewN | apply Kd.R_drew)); exact HO109.out) (Kd.R_base ho0) hb)
          have n2_ := Aside0.mk (Kd.R_lower (Kd.R_new' (Kd.R_new' ho0 (Kd.R_lt (by (with_reducible repeat (first | apply Kd.R_alloc | apply Kd.R_drewN | apply Kd.R_drew)); exact HO106.out))) (Kd.R_lt (by (with_reducible repeat (first | apply Kd.R_alloc | apply Kd.R_drewN | apply Kd.R_drew)); exact HO109.out))) (below_size (by repeat (first | (with_reducible first | exact HB.out | apply below_alloc | apply pw_below_drewN | apply below_drew1 | refine below_set ?_ GE101.out | refine below_set ?_ GE102.out) | exact HB.out))))
          have n3_ := Aside0.mk (blk_below (g := gb101) (o := .cells #[.slice A1_0 l1_0.length c1_0, .slice A1_1 l1_1.length c1_1] 24 (0, 0)) (by (with_reducible repeat (first | refine blk_drewN ?_ _ | refine blk_drew ?_ | refine blk_alloc ?_ _)); exact BK101.out) hb)
          have n4_ := Aside0.mk (blk_below (g := gb102) (o := .cells #[.int .i64 a2_0, .int .i64 a2_1] 25 (0, 0)) (by (with_reducible repeat (first | refine blk_drewN ?_ _ | refine blk_drew ?_ | refine blk_alloc ?_ _)); exact BK102.out) hb)
          have n5_ := Aside0.mk (below_step (by repeat (first | (with_reducible first | exact HB.out | apply below_alloc | apply pw_below_drewN | apply below_drew1 | refine below_set ?_ GE101.out | refine below_set ?_ GE102.out) | exact HB.out)) hb)
          clear HO106 HO109 BK101 BK102 HB; have HO106 := n0_; have HO109 := n1_; have HO115 := n2_; have BK101 := n3_; have BK102 := n4_; have HB := n5_; clear n0_ n1_ n2_ n3_ n4_ n5_; (try clear hb); (try clear hb2); (try clear hk); (try clear hi); (try clear ho0)
          refine hK.out _ _ ⟨(blk_cell BK102.out 0).trans rfl, (blk_cell BK102.out 1).trans rfl⟩ (fun hHeld => ?_)
          clear hK K
          refine nX (some 49) ?_
          refine oX (i := 16) (N := some 52) rfl rfl HT_ (fun K hK => ?_)
          refine goes_ Try.func21 (by kernel_rfl) rfl #[.slice Ao38 t104.length co38, .slice Ao40 t107.length co40] (by rfl) rfl rfl (by (try simp only [List.map_toArray, List.map_cons, List.map_nil]); first | done | rfl | (simp only [List.length_drop, List.length_take]; rfl)) ?_
          with_reducible refine (paroleref37_Join.calls kj5 _ _ t104 _ _ t107 t117 t120 _ ?side1 ?side2 ?side3 ?side4 A29.out).mono ?_
          (case side1 => repeat (first | exact (Kd.R_reads' HO106.out).2.2 | (with_reducible refine Kd.C_alloc ?_ _) | (with_reducible refine Kd.C_drewN ?_ _) | (with_reducible refine Kd.C_drew ?_)))
          (case side2 => exact (Kd.R_reads' HO106.out).2.1)
          (case side3 => repeat (first | exact (Kd.R_reads' HO109.out).2.2 | (with_reducible refine Kd.C_alloc ?_ _) | (with_reducible refine Kd.C_drewN ?_ _) | (with_reducible refine Kd.C_drew ?_)))
          (case side4 => exact (Kd.R_reads' HO109.out).2.1)
          rintro e w42 ⟨v118, rfl, ho0, hb⟩
          refine ⟨_, rfl, ?_⟩
          have n0_ := Aside0.mk (Kd.R_elder' (by (with_reducible repeat (first | apply Kd.R_alloc | apply Kd.R_drewN | apply Kd.R_drew)); exact HO106.out) (Kd.R_base ho0) hb)
          have n1_ := Aside0.mk (Kd.R_elder' (by (with_reducible repeat (first | apply Kd.R_alloc | apply Kd.R_drewN | apply Kd.R_drew)); exact HO109.out) (Kd.R_base ho0) hb)
          have n2_ := Aside0.mk (Kd.R_elder' (by (with_reducible repeat (first | apply Kd.R_alloc | apply Kd.R_drewN | apply Kd.R_drew)); exact HO115.out) (Kd.R_base ho0) hb)
          have n3_ := Aside0.mk (Kd.R_lower (Kd.R_new' (Kd.R_new' (Kd.R_new' ho0 (Kd.R_lt (by (with_reducible repeat (first | apply Kd.R_alloc | apply Kd.R_drewN | apply Kd.R_drew)); exact HO106.out))) (Kd.R_lt (by (with_reducible repeat (first | apply Kd.R_alloc | apply Kd.R_drewN | apply Kd.R_drew)); exact HO109.out))) (Kd.R_lt (by (with_reducible repeat (first | apply Kd.R_alloc | apply Kd.R_drewN | apply Kd.R_drew)); exact HO115.out))) (below_size (by repeat (first | (with_reducible first | exact HB.out | apply below_alloc | apply pw_below_drewN | apply below_drew1 | refine below_set ?_ GE101.out | refine below_set ?_ GE102.out) | exact HB.out))))
          have n4_ := Aside0.mk (blk_below (g := gb101) (o := .cells #[.slice A1_0 l1_0.length c1_0, .slice A1_1 l1_1.length c1_1] 24 (0, 0)) (by (with_reducible repeat (first | refine blk_drewN ?_ _ | refine blk_drew ?_ | refine blk_alloc ?_ _)); exact BK101.out) hb)
          have n5_ := Aside0.mk (blk_below (g := gb102) (o := .cells #[.int .i64 a2_0, .int .i64 a2_1] 25 (0, 0)) (by (with_reducible repeat (first | refine blk_drewN ?_ _ | refine blk_drew ?_ | refine blk_alloc ?_ _)); exact BK102.out) hb)
          have n6_ := Aside0.mk (below_step (by repeat (first | (with_reducible first | exact HB.out | apply below_alloc | apply pw_below_drewN | apply below_drew1 | refine below_set ?_ GE101.out | refine below_set ?_ GE102.out) | exact HB.out)) hb)
          clear HO106 HO109 HO115 BK101 BK102 HB; have HO106 := n0_; have HO109 := n1_; have HO115 := n2_; have HO119 := n3_; have BK101 := n4_; have BK102 := n5_; have HB := n6_; clear n0_ n1_ n2_ n3_ n4_ n5_ n6_; (try clear hb); (try clear hb2); (try clear hk); (try clear hi); (try clear ho0)
          obtain ⟨Ao43, co43, eo43⟩ := Kd.R_slice HO115.out
          (first | subst eo43 | (injection eo43 with f1_ f2_ f3_; have f4_ := f1_.symm; have f5_ := f3_.symm; clear f1_ f2_ f3_; subst f4_; subst f5_))
          obtain ⟨Ao44, co44, eo44⟩ := Kd.R_slice HO119.out
          (first | subst eo44 | (injection eo44 with f1_ f2_ f3_; have f4_ := f1_.symm; have f5_ := f3_.symm; clear f1_ f2_ f3_; subst f4_; subst f5_))
          refine hK.out _ _ ⟨(blk_cell BK102.out 0).trans rfl, (blk_cell BK102.out 1).trans rfl⟩ (fun hHeld => ?_)
          clear hK K
          refine nX (some 52) ?_
          refine oX (i := 17) (N := some 53) rfl rfl HT_ (fun K hK => ?_)
          refine goes_ Try.func19 (by kernel_rfl) rfl #[.agg #[.slice Ao43 t113.length co43, .int .i64 t116], .agg #[.slice Ao44 t117.length co44, .int .i64 t120]] (by rfl) rfl rfl (by (try simp only [List.map_toArray, List.map_cons, List.map_nil]); first | done | rfl | (simp only [List.length_drop, List.length_take]; rfl)) ?_
          with_reducible refine (parolelaw37_same.calls kj5 _ _ t113 t116 _ _ t117 t120 true _ ?side1 ?side2 ?side3 ?side4 A30.out).mono ?_
          (case side1 => repeat (first | exact (Kd.R_reads' HO115.out).2.2 | (with_reducible refine Kd.C_alloc ?_ _) | (with_reducible refine Kd.C_drewN ?_ _) | (with_reducible refine Kd.C_drew ?_)))
          (case side2 => exact (Kd.R_reads' HO115.out).2.1)
          (case side3 => repeat (first | exact (Kd.R_reads' HO119.out).2.2 | (with_reducible refine Kd.C_alloc ?_ _) | (with_reducible refine Kd.C_drewN ?_ _) | (with_reducible refine Kd.C_drew ?_)))
          (case side4 => exact (Kd.R_reads' HO119.out).2.1)
          rintro e w45 ⟨rfl, hb⟩
          refine ⟨_, rfl, ?_⟩
          have n0_ := Aside0.mk (Kd.R_below (by (with_reducible repeat (first | apply Kd.R_alloc | apply Kd.R_drewN | apply Kd.R_drew)); exact HO106.out) hb)
          have n1_ := Aside0.mk (Kd.R_below (by (with_reducible repeat (first | apply Kd.R_alloc | apply Kd.R_drewN | apply Kd.R_drew)); exact HO109.out) hb)
          have n2_ := Aside0.mk (Kd.R_below (by (with_reducible repeat (first | apply Kd.R_alloc | apply Kd.R_drewN | apply Kd.R_drew)); exact HO115.out) hb)
          have n3_ := Aside0.mk (Kd.R_below (by (with_reducible repeat (first | apply Kd.R_alloc | apply Kd.R_drewN | apply Kd.R_drew)); exact HO119.out) hb)
          have n4_ := Aside0.mk (blk_below (g := gb101) (o := .cells #[.slice A1_0 l1_0.length c1_0, .slice A1_1 l1_1.length c1_1] 24 (0, 0)) (by (with_reducible repeat (first | refine blk_drewN ?_ _ | refine blk_drew ?_ | refine blk_alloc ?_ _)); exact BK101.out) hb)
          have n5_ := Aside0.mk (blk_below (g := gb102) (o := .cells #[.int .i64 a2_0, .int .i64 a2_1] 25 (0, 0)) (by (with_reducible repeat (first | refine blk_drewN ?_ _ | refine blk_drew ?_ | refine blk_alloc ?_ _)); exact BK102.out) hb)
          have n6_ := Aside0.mk (below_step (by repeat (first | (with_reducible first | exact HB.out | apply below_alloc | apply pw_below_drewN | apply below_drew1 | refine below_set ?_ GE101.out | refine below_set ?_ GE102.out) | exact HB.out)) hb)
          clear HO106 HO109 HO115 HO119 BK101 BK102 HB; have HO106 := n0_; have HO109 := n1_; have HO115 := n2_; have HO119 := n3_; have BK101 := n4_; have BK102 := n5_; have HB := n6_; clear n0_ n1_ n2_ n3_ n4_ n5_ n6_; (try clear hb); (try clear hb2); (try clear hk); (try clear hi)
          refine hK.out _ _ ⟨(blk_cell BK102.out 0).trans rfl, (blk_cell BK102.out 1).trans rfl⟩ (fun hHeld => ?_)
          clear hK K
          refine nX (some 53) ?_
          refine pX (i := 18) (N := some 54) rfl rfl HT_ ?_
          refine pX (i := 19) (N := some 55) rfl rfl HT_ ?_
          refine pX (i := 20) (N := some 56) rfl rfl HT_ ?_
          refine pX (i := 21) (N := some 57) rfl rfl HT_ ?_
          refine pX (i := 22) (N := some 58) rfl rfl HT_ ?_
          refine pX (i := 25) (N := some 61) rfl rfl HT_ ?_
          refine pX (i := 26) (N := some 62) rfl rfl HT_ ?_
          refine tX (i := 23) (N := some 59) rfl rfl HT_ HW_ hHeld (Or.inl ⟨by rfl, by rintro w' ⟨s0, s1⟩; go_simp; with_reducible rfl⟩) ?_
          refine tX (i := 27) (N := some 63) rfl rfl HT_ HW_ hHeld (Or.inl ⟨by rfl, by rintro w' ⟨s0, s1⟩; go_simp; with_reducible rfl⟩) ?_
          refine oX (i := 24) (N := some 60) rfl rfl HT_ (fun K hK => ?_)
          refine goes_ Try.func22 (by kernel_rfl) rfl #[.slice Ao38 t104.length co38, .int .i64 a2_0] (by rfl) rfl rfl (by (try simp only [List.map_toArray, List.map_cons, List.map_nil]); first | done | rfl | (simp only [List.length_drop, List.length_take]; rfl)) ?_
          with_reducible refine (odds_Of.calls kj5 _ _ t104 a2_0 t122 t123 _ ?side1 ?side2 A32.out).mono ?_
          (case side1 => repeat (first | exact (Kd.R_reads' HO106.out).2.2 | (with_reducible refine Kd.C_alloc ?_ _) | (with_reducible refine Kd.C_drewN ?_ _) | (with_reducible refine Kd.C_drew ?_)))
          (case side2 => exact (Kd.R_reads' HO106.out).2.1)
          rintro e w46 ⟨rfl, hb⟩
          refine ⟨_, rfl, ?_⟩
          have n0_ := Aside0.mk (Kd.R_below (by (with_reducible repeat (first | apply Kd.R_alloc | apply Kd.R_drewN | apply Kd.R_drew)); exact HO106.out) hb)
          have n1_ := Aside0.mk (Kd.R_below (by (with_reducible repeat (first | apply Kd.R_alloc | apply Kd.R_drewN | apply Kd.R_drew)); exact HO109.out) hb)
          have n2_ := Aside0.mk (Kd.R_below (by (with_reducible repeat (first | apply Kd.R_alloc | apply Kd.R_drewN | apply Kd.R_drew)); exact HO115.out) hb)
          have n3_ := Aside0.mk (Kd.R_below (by (with_reducible repeat (first | apply Kd.R_alloc | apply Kd.R_drewN | apply Kd.R_drew)); exact HO119.out) hb)
          have n4_ := Aside0.mk (blk_below (g := gb101) (o := .cells #[.slice A1_0 l1_0.length c1_0, .slice A1_1 l1_1.length c1_1] 24 (0, 0)) (by (with_reducible repeat (first | refine blk_drewN ?_ _ | refine blk_drew ?_ | refine blk_alloc ?_ _)); exact BK101.out) hb)
          have n5_ := Aside0.mk (blk_below (g := gb102) (o := .cells #[.int .i64 a2_0, .int .i64 a2_1] 25 (0, 0)) (by (with_reducible repeat (first | refine blk_drewN ?_ _ | refine blk_drew ?_ | refine blk_alloc ?_ _)); exact BK102.out) hb)
          have n6_ := Aside0.mk (below_step (by repeat (first | (with_reducible first | exact HB.out | apply below_alloc | apply pw_below_drewN | apply below_drew1 | refine below_set ?_ GE101.out | refine below_set ?_ GE102.out) | exact HB.out)) hb)
          clear HO106 HO109 HO115 HO119 BK101 BK102 HB; have HO106 := n0_; have HO109 := n1_; have HO115 := n2_; have HO119 := n3_; have BK101 := n4_; have BK102 := n5_; have HB := n6_; clear n0_ n1_ n2_ n3_ n4_ n5_ n6_; (try clear hb); (try clear hb2); (try clear hk); (try clear hi)
          refine hK.out _ _ ⟨(blk_cell BK102.out 0).trans rfl, (blk_cell BK102.out 1).trans rfl⟩ (fun hHeld => ?_)
          clear hK K
          refine nX (some 60) ?_
          refine oX (i := 28) (N := some 64) rfl rfl HT_ (fun K hK => ?_)
          refine goes_ Try.func23 (by kernel_rfl) rfl #[.slice Ao38 t104.length co38, .int .i64 a2_0] (by rfl) rfl rfl (by (try simp only [List.map_toArray, List.map_cons, List.map_nil]); first | done | rfl | (simp only [List.length_drop, List.length_take]; rfl)) ?_
          with_reducible refine (paroleref37_Of.calls kj5 _ _ t104 a2_0 t124 t125 _ ?side1 ?side2 A33.out).mono ?_
          (case side1 => repeat (first | exact (Kd.R_reads' HO106.out).2.2 | (with_reducible refine Kd.C_alloc ?_ _) | (with_reducible refine Kd.C_drewN ?_ _) | (with_reducible refine Kd.C_drew ?_)))
          (case side2 => exact (Kd.R_reads' HO106.out).2.1)
          rintro e w47 ⟨rfl, hb⟩
          refine ⟨_, rfl, ?_⟩
          have n0_ := Aside0.mk (Kd.R_below (by (with_reducible repeat (first | apply Kd.R_alloc | apply Kd.R_drewN | apply Kd.R_drew)); exact HO106.out) hb)
          have n1_ := Aside0.mk (Kd.R_below (by (with_reducible repeat (first | apply Kd.R_alloc | apply Kd.R_drewN | apply Kd.R_drew)); exact HO109.out) hb)
          have n2_ := Aside0.mk (Kd.R_below (by (with_reducible repeat (first | apply Kd.R_alloc | apply Kd.R_drewN | apply Kd.R_drew)); exact HO115.out) hb)
          have n3_ := Aside0.mk (Kd.R_below (by (with_reducible repeat (first | apply Kd.R_alloc | apply Kd.R_drewN | apply Kd.R_drew)); exact HO119.out) hb)
          have n4_ := Aside0.mk (blk_below (g := gb101) (o := .cells #[.slice A1_0 l1_0.length c1_0, .slice A1_1 l1_1.length c1_1] 24 (0, 0)) (by (with_reducible repeat (first | refine blk_drewN ?_ _ | refine blk_drew ?_ | refine blk_alloc ?_ _)); exact BK101.out) hb)
          have n5_ := Aside0.mk (blk_below (g := gb102) (o := .cells #[.int .i64 a2_0, .int .i64 a2_1] 25 (0, 0)) (by (with_reducible repeat (first | refine blk_drewN ?_ _ | refine blk_drew ?_ | refine blk_alloc ?_ _)); exact BK102.out) hb)
          have n6_ := Aside0.mk (below_step (by repeat (first | (with_reducible first | exact HB.out | apply below_alloc | apply pw_below_drewN | apply below_drew1 | refine below_set ?_ GE101.out | refine below_set ?_ GE102.out) | exact HB.out)) hb)
          clear HO106 HO109 HO115 HO119 BK101 BK102 HB; have HO106 := n0_; have HO109 := n1_; have HO115 := n2_; have HO119 := n3_; have BK101 := n4_; have BK102 := n5_; have HB := n6_; clear n0_ n1_ n2_ n3_ n4_ n5_ n6_; (try clear hb); (try clear hb2); (try clear hk); (try clear hi)
          refine hK.out _ _ ⟨(blk_cell BK102.out 0).trans rfl, (blk_cell BK102.out 1).trans rfl⟩ (fun hHeld => ?_)
          clear hK K
          refine nX (some 64) ?_
          refine pX (i := 29) (N := some 65) rfl rfl HT_ ?_
          refine pX (i := 30) (N := some 66) rfl rfl HT_ ?_
          refine pX (i := 31) (N := some 67) rfl rfl HT_ ?_
          refine pU (i := 32) (N := some 68) rfl rfl HT_ ?_
          refine pU (i := 33) (N := some 69) rfl rfl HT_ ?_
          refine pU (i := 34) (N := some 70) rfl rfl HT_ ?_
          refine pU (i := 35) (N := some 71) rfl rfl HT_ ?_
          refine pU (i := 36) (N := some 72) rfl rfl HT_ ?_
          refine pU (i := 37) (N := some 73) rfl rfl HT_ ?_
          refine pU (i := 38) (N := some 74) rfl rfl HT_ ?_
          refine pU (i := 39) (N := some 75) rfl rfl HT_ ?_
          refine pU (i := 40) (N := some 76) rfl rfl HT_ ?_
          refine pU (i := 41) (N := some 77) rfl rfl HT_ ?_
          refine pU (i := 42) (N := some 78) rfl rfl HT_ ?_
          refine pU (i := 43) (N := some 79) rfl rfl HT_ ?_
          refine pU (i := 44) (N := some 80) rfl rfl HT_ ?_
          refine pX (i := 45) (N := some 81) rfl rfl HT_ ?_
          refine done_ (done_of HT_.out (by kernel_rfl)) ?_
          try go_wp2
          go_meet
          case rel => exact ⟨_, (true), (by first | rfl | (simp; done) | (simp [*]; done)), H', ⟨by have := HJ5.out; first | omega | exact Nat.le_refl _⟩, ⟨by (with_reducible repeat (first | apply Kd.R_alloc | apply Kd.R_drewN | apply Kd.R_drew)); exact Kd.R_mono HO106.out (fun _ hk => hk.1.1.2)⟩, ⟨by (with_reducible repeat (first | apply Kd.R_alloc | apply Kd.R_drewN | apply Kd.R_drew)); exact Kd.R_mono HO109.out (fun _ hk => hk.1.1.2)⟩, ⟨by (with_reducible repeat (first | refine blk_drewN ?_ _ | refine blk_drew ?_ | refine blk_alloc ?_ _)); exact BK101.out⟩, ⟨by (with_reducible repeat (first | refine blk_drewN ?_ _ | refine blk_drew ?_ | refine blk_alloc ?_ _)); exact BK102.out⟩, ⟨by repeat (first | (with_reducible first | exact HB.out | apply below_alloc | apply pw_below_drewN | apply below_drew1 | refine below_set ?_ GE101.out | refine below_set ?_ GE102.out) | exact HB.out)⟩⟩
         ·rw [if_neg c34] at H
          have c34b0 : (!(t122 == t124) || (!(t123 == t125))) = false := by simpa using c34
          clear c34
          replace H := Option.bind_eq_some_iff.mp H
          obtain ⟨⟨t126, t127, t128⟩, A480, H⟩ := H
          replace H : ((paroleref37_Loss.f kj5 t104 a2_0 a2_1).bind fun bt129 => (parolelaw37_OddsMatchesReference.j1 kj5 true t104 t107 ((!(t126 == bt129.1) || (!(t127 == bt129.2.1))) || (!(t128 == bt129.2.2))) a2_0 a2_1)) = some r := H
          have A48 := Aside0.mk A480
          clear A480
          replace H := Option.bind_eq_some_iff.mp H
          obtain ⟨⟨t129, t130, t131⟩, A490, H⟩ := H
          replace H : (parolelaw37_OddsMatchesReference.j1 kj5 true t104 t107 ((!(t126 == t129) || (!(t127 == t130))) || (!(t128 == t131))) a2_0 a2_1) = some r := H
          have A49 := Aside0.mk A490
          clear A490
          have H' := Aside0.mk H
          clear H
          try go_wp2
          have n0_ := Aside0.mk (Kd.R_drew HO106.out)
          have n1_ := Aside0.mk (Kd.R_drew HO109.out)
          have n2_ := Aside0.mk (blk_drew BK101.out)
          have n3_ := Aside0.mk (blk_drew BK102.out)
          have n4_ := Aside0.mk (below_drew1 HB.out)
          clear HO106 HO109 BK101 BK102 HB; have HO106 := n0_; have HO109 := n1_; have BK101 := n2_; have BK102 := n3_; have HB := n4_; clear n0_ n1_ n2_ n3_ n4_
          refine start_ (n := 46) (S := fun w' => w'.cell? ⟨gb102, 0, none⟩ = some (.int .i64 a2_0) ∧ w'.cell? ⟨gb102, 1, none⟩ = some (.int .i64 a2_1)) (ds := []) #[false, false, false, false, false, false, false, false, false, false, false, false, false, false, false, false, false, false, false, false, false, false, false, false, false, false, false, false, false, false, false, false, false, false, false, false, false, false, false, false, false, false, false, false, false, false] (by kernel_rfl) rfl rfl ⟨(blk_cell BK102.out 0).trans rfl, (blk_cell BK102.out 1).trans rfl⟩ (fun hHeld => ?_); refine with_tabW parolelaw37_OddsMatchesReference.tab7 parolelaw37_OddsMatchesReference.bits7 (fun HT_ HW_ => ?_)
          generalize w22.drew = w50 at HO106 HO109 BK101 BK102 HB hHeld ⊢
          refine pX (i := 0) (N := some 36) rfl rfl HT_ ?_
          refine pX (i := 2) (N := some 38) rfl rfl HT_ ?_
          refine oX (i := 1) (N := some 37) rfl rfl HT_ (fun K hK => ?_)
          refine goes_ Try.func17 (by kernel_rfl) rfl #[.slice A0 l0.length c0] (by rfl) rfl rfl (by (try simp only [List.map_toArray, List.map_cons, List.map_nil]); first | done | rfl | (simp only [List.length_drop, List.length_take]; rfl)) ?_
          with_reducible refine (odds_Right.calls kj5 _ _ l0 t110 _ ?side1 ?side2 A23.out).mono ?_
          (case side1 => repeat (first | exact (Kd.C_below HR0.out HB.out) | (with_reducible refine Kd.C_alloc ?_ _) | (with_reducible refine Kd.C_drewN ?_ _) | (with_reducible refine Kd.C_drew ?_)))
          (case side2 => exact HC0.out)
          rintro e w51 ⟨rfl, hb⟩
          refine ⟨_, rfl, ?_⟩
          have n0_ := Aside0.mk (Kd.R_below (by (with_reducible repeat (first | apply Kd.R_alloc | apply Kd.R_drewN | apply Kd.R_drew)); exact HO106.out) hb)
          have n1_ := Aside0.mk (Kd.R_below (by (with_reducible repeat (first | apply Kd.R_alloc | apply Kd.R_drewN | apply Kd.R_drew)); exact HO109.out) hb)
          have n2_ := Aside0.mk (blk_below (g := gb101) (o := .cells #[.slice A1_0 l1_0.length c1_0, .slice A1_1 l1_1.length c1_1] 24 (0, 0)) (by (with_reducible repeat (first | refine blk_drewN ?_ _ | refine blk_drew ?_ | refine blk_alloc ?_ _)); exact BK101.out) hb)
          have n3_ := Aside0.mk (blk_below (g := gb102) (o := .cells #[.int .i64 a2_0, .int .i64 a2_1] 25 (0, 0)) (by (with_reducible repeat (first | refine blk_drewN ?_ _ | refine blk_drew ?_ | refine blk_alloc ?_ _)); exact BK102.out) hb)
          have n4_ := Aside0.mk (below_step (by repeat (first | (with_reducible first | exact HB.out | apply below_alloc | apply pw_below_drewN | apply below_drew1 | refine below_set ?_ GE101.out | refine below_set ?_ GE102.out) | exact HB.out)) hb)
          clear HO106 HO109 BK101 BK102 HB; have HO106 := n0_; have HO109 := n1_; have BK101 := n2_; have BK102 := n3_; have HB := n4_; clear n0_ n1_ n2_ n3_ n4_; (try clear hb); (try clear hb2); (try clear hk); (try clear hi)
          refine hK.out _ _ ⟨(blk_cell BK102.out 0).trans rfl, (blk_cell BK102.out 1).trans rfl⟩ (fun hHeld => ?_)
          clear hK K
          refine nX (some 37) ?_
          refine oX (i := 3) (N := some 39) rfl rfl HT_ (fun K hK => ?_)
          refine goes_ Try.func18 (by kernel_rfl) rfl #[.slice A0 l0.length c0] (by rfl) rfl rfl (by (try simp only [List.map_toArray, List.map_cons, List.map_nil]); first | done | rfl | (simp only [List.length_drop, List.length_take]; rfl)) ?_
          with_reducible refine (paroleref37_Right.calls kj5 _ _ l0 t111 _ ?side1 ?side2 A24.out).mono ?_
          (case side1 => repeat (first | exact (Kd.C_below HR0.out HB.out) | (with_reducible refine Kd.C_alloc ?_ _) | (with_reducible refine Kd.C_drewN ?_ _) | (with_reducible refine Kd.C_drew ?_)))
          (case side2 => exact HC0.out)
          rintro e w52 ⟨rfl, hb⟩
          refine ⟨_, rfl, ?_⟩
          have n0_ := Aside0.mk (Kd.R_below (by (with_reducible repeat (first | apply Kd.R_alloc | apply Kd.R_drewN | apply Kd.R_drew)); exact HO106.out) hb)
          have n1_ := Aside0.mk (Kd.R_below (by (with_reducible repeat (first | apply Kd.R_alloc | apply Kd.R_drewN | apply Kd.R_drew)); exact HO109.out) hb)
          have n2_ := Aside0.mk (blk_below (g := gb101) (o := .cells #[.slice A1_0 l1_0.length c1_0, .slice A1_1 l1_1.length c1_1] 24 (0, 0)) (by (with_reducible repeat (first | refine blk_drewN ?_ _ | refine blk_drew ?_ | refine blk_alloc ?_ _)); exact BK101.out) hb)
          have n3_ := Aside0.mk (blk_below (g := gb102) (o := .cells #[.int .i64 a2_0, .int .i64 a2_1] 25 (0, 0)) (by (with_reducible repeat (first | refine blk_drewN ?_ _ | refine blk_drew ?_ | refine blk_alloc ?_ _)); exact BK102.out) hb)
          have n4_ := Aside0.mk (below_step (by repeat (first | (with_reducible first | exact HB.out | apply below_alloc | apply pw_below_drewN | apply below_drew1 | refine below_set ?_ GE101.out | refine below_set ?_ GE102.out) | exact HB.out)) hb)
          clear HO106 HO109 BK101 BK102 HB; have HO106 := n0_; have HO109 := n1_; have BK101 := n2_; have BK102 := n3_; have HB := n4_; clear n0_ n1_ n2_ n3_ n4_; (try clear hb); (try clear hb2); (try clear hk); (try clear hi)
          obtain ⟨Ao53, co53, eo53⟩ := Kd.R_slice HO106.out
          (first | subst eo53 | (injection eo53 with f1_ f2_ f3_; have f4_ := f1_.symm; have f5_ := f3_.symm; clear f1_ f2_ f3_; subst f4_; subst f5_))
          refine hK.out _ _ ⟨(blk_cell BK102.out 0).trans rfl, (blk_cell BK102.out 1).trans rfl⟩ (fun hHeld => ?_)
          clear hK K
          refine nX (some 39) ?_
          refine pX (i := 4) (N := some 40) rfl rfl HT_ ?_
          refine pX (i := 5) (N := some 41) rfl rfl HT_ ?_
          refine pX (i := 6) (N := some 42) rfl rfl HT_ ?_
          refine oX (i := 7) (N := some 43) rfl rfl HT_ (fun K hK => ?_)
          refine goes_ Try.func17 (by kernel_rfl) rfl #[.slice Ao53 t104.length co53] (by rfl) rfl rfl (by (try simp only [List.map_toArray, List.map_cons, List.map_nil]); first | done | rfl | (simp only [List.length_drop, List.length_take]; rfl)) ?_
          with_reducible refine (odds_Right.calls kj5 _ _ t104 t112 _ ?side1 ?side2 A26.out).mono ?_
          (case side1 => repeat (first | exact (Kd.R_reads' HO106.out).2.2 | (with_reducible refine Kd.C_alloc ?_ _) | (with_reducible refine Kd.C_drewN ?_ _) | (with_reducible refine Kd.C_drew ?_)))
          (case side2 => exact (Kd.R_reads' HO106.out).2.1)
          rintro e w54 ⟨rfl, hb⟩
          refine ⟨_, rfl, ?_⟩
          have n0_ := Aside0.mk (Kd.R_below (by (with_reducible repeat (first | apply Kd.R_alloc | apply Kd.R_drewN | apply Kd.R_drew)); exact HO106.out) hb)
          have n1_ := Aside0.mk (Kd.R_below (by (with_reducible repeat (first | apply Kd.R_alloc | apply Kd.R_drewN | apply Kd.R_drew)); exact HO109.out) hb)
          have n2_ := Aside0.mk (blk_below (g := gb101) (o := .cells #[.slice A1_0 l1_0.length c1_0, .slice A1_1 l1_1.length c1_1] 24 (0, 0)) (by (with_reducible repeat (first | refine blk_drewN ?_ _ | refine blk_drew ?_ | refine blk_alloc ?_ _)); exact BK101.out) hb)
          have n3_ := Aside0.mk (blk_below (g := gb102) (o := .cells #[.int .i64 a2_0, .int .i64 a2_1] 25 (0, 0)) (by (with_reducible repeat (first | refine blk_drewN ?_ _ | refine blk_drew ?_ | refine blk_alloc ?_ _)); exact BK102.out) hb)
          have n4_ := Aside0.mk (below_step (by repeat (first | (with_reducible first | exact HB.out | apply below_alloc | apply pw_below_drewN | apply below_drew1 | refine below_set ?_ GE101.out | refine below_set ?_ GE102.out) | exact HB.out)) hb)
          clear HO106 HO109 BK101 BK102 HB; have HO106 := n0_; have HO109 := n1_; have BK101 := n2_; have BK102 := n3_; have HB := n4_; clear n0_ n1_ n2_ n3_ n4_; (try clear hb); (try clear hb2); (try clear hk); (try clear hi)
          obtain ⟨Ao55, co55, eo55⟩ := Kd.R_slice HO109.out
          (first | subst eo55 | (injection eo55 with f1_ f2_ f3_; have f4_ := f1_.symm; have f5_ := f3_.symm; clear f1_ f2_ f3_; subst f4_; subst f5_))
          refine hK.out _ _ ⟨(blk_cell BK102.out 0).trans rfl, (blk_cell BK102.out 1).trans rfl⟩ (fun hHeld => ?_)
          clear hK K
          refine nX (some 43) ?_
          refine pX (i := 8) (N := some 44) rfl rfl HT_ ?_
          refine pX (i := 9) (N := some 45) rfl rfl HT_ ?_
          refine pX (i := 10) (N := some 46) rfl rfl HT_ ?_
          refine pX (i := 11) (N := some 47) rfl rfl HT_ ?_
          refine pX (i := 12) (N := some 48) rfl rfl HT_ ?_
          refine pX (i := 14) (N := some 50) rfl rfl HT_ ?_
          refine pX (i := 15) (N := some 51) rfl rfl HT_ ?_
          refine oX (i := 13) (N := some 49) rfl rfl HT_ (fun K hK => ?_)
          refine goes_ Try.func20 (by kernel_rfl) rfl #[.slice Ao53 t104.length co53, .slice Ao55 t107.length co55] (by rfl) rfl rfl (by (try simp only [List.map_toArray, List.map_cons, List.map_nil]); first | done | rfl | (simp only [List.length_drop, List.length_take]; rfl)) ?_
          with_reducible refine (parolelaw37_joined.calls kj5 _ _ t104 _ _ t107 t113 t116 _ ?side1 ?side2 ?side3 ?side4 A28.out).mono ?_
          (case side1 => repeat (first | exact (Kd.R_reads' HO106.out).2.2 | (with_reducible refine Kd.C_alloc ?_ _) | (with_reducible refine Kd.C_drewN ?_ _) | (with_reducible refine Kd.C_drew ?_)))
          (case side2 => exact (Kd.R_reads' HO106.out).2.1)
          (case side3 => repeat (first | exact (Kd.R_reads' HO109.out).2.2 | (with_reducible refine Kd.C_alloc ?_ _) | (with_reducible refine Kd.C_drewN ?_ _) | (with_reducible refine Kd.C_drew ?_)))
          (case side4 => exact (Kd.R_reads' HO109.out).2.1)
          rintro e w56 ⟨v114, rfl, ho0, hb⟩
          refine ⟨_, rfl, ?_⟩
          have n0_ := Aside0.mk (Kd.R_elder' (by (with_reducible repeat (first | apply Kd.R_alloc | apply Kd.R_drewN | apply Kd.R_drew)); exact HO106.out) (Kd.R_base ho0) hb)
          have n1_ := Aside0.mk (Kd.R_elder' (by (with_reducible repeat (first | apply Kd.R_alloc | apply Kd.R_drewN | apply Kd.R_drew)); exact HO109.out) (Kd.R_base ho0) hb)
          have n2_ := Aside0.mk (Kd.R_lower (Kd.R_new' (Kd.R_new' ho0 (Kd.R_lt (by (with_reducible repeat (first | apply Kd.R_alloc | apply Kd.R_drewN | apply Kd.R_drew)); exact HO106.out))) (Kd.R_lt (by (with_reducible repeat (first | apply Kd.R_alloc | apply Kd.R_drewN | apply Kd.R_drew)); exact HO109.out))) (below_size (by repeat (first | (with_reducible first | exact HB.out | apply below_alloc | apply pw_below_drewN | apply below_drew1 | refine below_set ?_ GE101.out | refine below_set ?_ GE102.out) | exact HB.out))))
          have n3_ := Aside0.mk (blk_below (g := gb101) (o := .cells #[.slice A1_0 l1_0.length c1_0, .slice A1_1 l1_1.length c1_1] 24 (0, 0)) (by (with_reducible repeat (first | refine blk_drewN ?_ _ | refine blk_drew ?_ | refine blk_alloc ?_ _)); exact BK101.out) hb)
          have n4_ := Aside0.mk (blk_below (g := gb102) (o := .cells #[.int .i64 a2_0, .int .i64 a2_1] 25 (0, 0)) (by (with_reducible repeat (first | refine blk_drewN ?_ _ | refine blk_drew ?_ | refine blk_alloc ?_ _)); exact BK102.out) hb)
          have n5_ := Aside0.mk (below_step (by repeat (first | (with_reducible first | exact HB.out | apply below_alloc | apply pw_below_drewN | apply below_drew1 | refine below_set ?_ GE101.out | refine below_set ?_ GE102.out) | exact HB.out)) hb)
          clear HO106 HO109 BK101 BK102 HB; have HO106 := n0_; have HO109 := n1_; have HO115 := n2_; have BK101 := n3_; have BK102 := n4_; have HB := n5_; clear n0_ n1_ n2_ n3_ n4_ n5_; (try clear hb); (try clear hb2); (try clear hk); (try clear hi); (try clear ho0)
          refine hK.out _ _ ⟨(blk_cell BK102.out 0).trans rfl, (blk_cell BK102.out 1).trans rfl⟩ (fun hHeld => ?_)
          clear hK K
          refine nX (some 49) ?_
          refine oX (i := 16) (N := some 52) rfl rfl HT_ (fun K hK => ?_)
          refine goes_ Try.func21 (by kernel_rfl) rfl #[.slice Ao53 t104.length co53, .slice Ao55 t107.length co55] (by rfl) rfl rfl (by (try simp only [List.map_toArray, List.map_cons, List.map_nil]); first | done | rfl | (simp only [List.length_drop, List.length_take]; rfl)) ?_
          with_reducible refine (paroleref37_Join.calls kj5 _ _ t104 _ _ t107 t117 t120 _ ?side1 ?side2 ?side3 ?side4 A29.out).mono ?_
          (case side1 => repeat (first | exact (Kd.R_reads' HO106.out).2.2 | (with_reducible refine Kd.C_alloc ?_ _) | (with_reducible refine Kd.C_drewN ?_ _) | (with_reducible refine Kd.C_drew ?_)))
          (case side2 => exact (Kd.R_reads' HO106.out).2.1)
          (case side3 => repeat (first | exact (Kd.R_reads' HO109.out).2.2 | (with_reducible refine Kd.C_alloc ?_ _) | (with_reducible refine Kd.C_drewN ?_ _) | (with_reducible refine Kd.C_drew ?_)))
          (case side4 => exact (Kd.R_reads' HO109.out).2.1)
          rintro e w57 ⟨v118, rfl, ho0, hb⟩
          refine ⟨_, rfl, ?_⟩
          have n0_ := Aside0.mk (Kd.R_elder' (by (with_reducible repeat (first | apply Kd.R_alloc | apply Kd.R_drewN | apply Kd.R_drew)); exact HO106.out) (Kd.R_base ho0) hb)
          have n1_ := Aside0.mk (Kd.R_elder' (by (with_reducible repeat (first | apply Kd.R_alloc | apply Kd.R_drewN | apply Kd.R_drew)); exact HO109.out) (Kd.R_base ho0) hb)
          have n2_ := Aside0.mk (Kd.R_elder' (by (with_reducible repeat (first | apply Kd.R_alloc | apply Kd.R_drewN | apply Kd.R_drew)); exact HO115.out) (Kd.R_base ho0) hb)
          have n3_ := Aside0.mk (Kd.R_lower (Kd.R_new' (Kd.R_new' (Kd.R_new' ho0 (Kd.R_lt (by (with_reducible repeat (first | apply Kd.R_alloc | apply Kd.R_drewN | apply Kd.R_drew)); exact HO106.out))) (Kd.R_lt (by (with_reducible repeat (first | apply Kd.R_alloc | apply Kd.R_drewN | apply Kd.R_drew)); exact HO109.out))) (Kd.R_lt (by (with_reducible repeat (first | apply Kd.R_alloc | apply Kd.R_drewN | apply Kd.R_drew)); exact HO115.out))) (below_size (by repeat (first | (with_reducible first | exact HB.out | apply below_alloc | apply pw_below_drewN | apply below_drew1 | refine below_set ?_ GE101.out | refine below_set ?_ GE102.out) | exact HB.out))))
          have n4_ := Aside0.mk (blk_below (g := gb101) (o := .cells #[.slice A1_0 l1_0.length c1_0, .slice A1_1 l1_1.length c1_1] 24 (0, 0)) (by (with_reducible repeat (first | refine blk_drewN ?_ _ | refine blk_drew ?_ | refine blk_alloc ?_ _)); exact BK101.out) hb)
          have n5_ := Aside0.mk (blk_below (g := gb102) (o := .cells #[.int .i64 a2_0, .int .i64 a2_1] 25 (0, 0)) (by (with_reducible repeat (first | refine blk_drewN ?_ _ | refine blk_drew ?_ | refine blk_alloc ?_ _)); exact BK102.out) hb)
          have n6_ := Aside0.mk (below_step (by repeat (first | (with_reducible first | exact HB.out | apply below_alloc | apply pw_below_drewN | apply below_drew1 | refine below_set ?_ GE101.out | refine below_set ?_ GE102.out) | exact HB.out)) hb)
          clear HO106 HO109 HO115 BK101 BK102 HB; have HO106 := n0_; have HO109 := n1_; have HO115 := n2_; have HO119 := n3_; have BK101 := n4_; have BK102 := n5_; have HB := n6_; clear n0_ n1_ n2_ n3_ n4_ n5_ n6_; (try clear hb); (try clear hb2); (try clear hk); (try clear hi); (try clear ho0)
          obtain ⟨Ao58, co58, eo58⟩ := Kd.R_slice HO115.out
          (first | subst eo58 | (injection eo58 with f1_ f2_ f3_; have f4_ := f1_.symm; have f5_ := f3_.symm; clear f1_ f2_ f3_; subst f4_; subst f5_))
          obtain ⟨Ao59, co59, eo59⟩ := Kd.R_slice HO119.out
          (first | subst eo59 | (injection eo59 with f1_ f2_ f3_; have f4_ := f1_.symm; have f5_ := f3_.symm; clear f1_ f2_ f3_; subst f4_; subst f5_))
          refine hK.out _ _ ⟨(blk_cell BK102.out 0).trans rfl, (blk_cell BK102.out 1).trans rfl⟩ (fun hHeld => ?_)
          clear hK K
          refine nX (some 52) ?_
          refine oX (i := 17) (N := some 53) rfl rfl HT_ (fun K hK => ?_)
          refine goes_ Try.func19 (by kernel_rfl) rfl #[.agg #[.slice Ao58 t113.length co58, .int .i64 t116], .agg #[.slice Ao59 t117.length co59, .int .i64 t120]] (by rfl) rfl rfl (by (try simp only [List.map_toArray, List.map_cons, List.map_nil]); first | done | rfl | (simp only [List.length_drop, List.length_take]; rfl)) ?_
          with_reducible refine (parolelaw37_same.calls kj5 _ _ t113 t116 _ _ t117 t120 true _ ?side1 ?side2 ?side3 ?side4 A30.out).mono ?_
          (case side1 => repeat (first | exact (Kd.R_reads' HO115.out).2.2 | (with_reducible refine Kd.C_alloc ?_ _) | (with_reducible refine Kd.C_drewN ?_ _) | (with_reducible refine Kd.C_drew ?_)))
          (case side2 => exact (Kd.R_reads' HO115.out).2.1)
          (case side3 => repeat (first | exact (Kd.R_reads' HO119.out).2.2 | (with_reducible refine Kd.C_alloc ?_ _) | (with_reducible refine Kd.C_drewN ?_ _) | (with_reducible refine Kd.C_drew ?_)))
          (case side4 => exact (Kd.R_reads' HO119.out).2.1)
          rintro e w60 ⟨rfl, hb⟩
          refine ⟨_, rfl, ?_⟩
          have n0_ := Aside0.mk (Kd.R_below (by (with_reducible repeat (first | apply Kd.R_alloc | apply Kd.R_drewN | apply Kd.R_drew)); exact HO106.out) hb)
          have n1_ := Aside0.mk (Kd.R_below (by (with_reducible repeat (first | apply Kd.R_alloc | apply Kd.R_drewN | apply Kd.R_drew)); exact HO109.out) hb)
          have n2_ := Aside0.mk (Kd.R_below (by (with_reducible repeat (first | apply Kd.R_alloc | apply Kd.R_drewN | apply Kd.R_drew)); exact HO115.out) hb)
          have n3_ := Aside0.mk (Kd.R_below (by (with_reducible repeat (first | apply Kd.R_alloc | apply Kd.R_drewN | apply Kd.R_drew)); exact HO119.out) hb)
          have n4_ := Aside0.mk (blk_below (g := gb101) (o := .cells #[.slice A1_0 l1_0.length c1_0, .slice A1_1 l1_1.length c1_1] 24 (0, 0)) (by (with_reducible repeat (first | refine blk_drewN ?_ _ | refine blk_drew ?_ | refine blk_alloc ?_ _)); exact BK101.out) hb)
          have n5_ := Aside0.mk (blk_below (g := gb102) (o := .cells #[.int .i64 a2_0, .int .i64 a2_1] 25 (0, 0)) (by (with_reducible repeat (first | refine blk_drewN ?_ _ | refine blk_drew ?_ | refine blk_alloc ?_ _)); exact BK102.out) hb)
          have n6_ := Aside0.mk (below_step (by repeat (first | (with_reducible first | exact HB.out | apply below_alloc | apply pw_below_drewN | apply below_drew1 | refine below_set ?_ GE101.out | refine below_set ?_ GE102.out) | exact HB.out)) hb)
          clear HO106 HO109 HO115 HO119 BK101 BK102 HB; have HO106 := n0_; have HO109 := n1_; have HO115 := n2_; have HO119 := n3_; have BK101 := n4_; have BK102 := n5_; have HB := n6_; clear n0_ n1_ n2_ n3_ n4_ n5_ n6_; (try clear hb); (try clear hb2); (try clear hk); (try clear hi)
          refine hK.out _ _ ⟨(blk_cell BK102.out 0).trans rfl, (blk_cell BK102.out 1).trans rfl⟩ (fun hHeld => ?_)
          clear hK K
          refine nX (some 53) ?_
          refine pX (i := 18) (N := some 54) rfl rfl HT_ ?_
          refine pX (i := 19) (N := some 55) rfl rfl HT_ ?_
          refine pX (i := 20) (N := some 56) rfl rfl HT_ ?_
          refine pX (i := 21) (N := some 57) rfl rfl HT_ ?_
          refine pX (i := 22) (N := some 58) rfl rfl HT_ ?_
          refine pX (i := 25) (N := some 61) rfl rfl HT_ ?_
          refine pX (i := 26) (N := some 62) rfl rfl HT_ ?_
          refine tX (i := 23) (N := some 59) rfl rfl HT_ HW_ hHeld (Or.inl ⟨by rfl, by rintro w' ⟨s0, s1⟩; go_simp; with_reducible rfl⟩) ?_
          refine tX (i := 27) (N := some 63) rfl rfl HT_ HW_ hHeld (Or.inl ⟨by rfl, by rintro w' ⟨s0, s1⟩; go_simp; with_reducible rfl⟩) ?_
          refine oX (i := 24) (N := some 60) rfl rfl HT_ (fun K hK => ?_)
          refine goes_ Try.func22 (by kernel_rfl) rfl #[.slice Ao53 t104.length co53, .int .i64 a2_0] (by rfl) rfl rfl (by (try simp only [List.map_toArray, List.map_cons, List.map_nil]); first | done | rfl | (simp only [List.length_drop, List.length_take]; rfl)) ?_
          with_reducible refine (odds_Of.calls kj5 _ _ t104 a2_0 t122 t123 _ ?side1 ?side2 A32.out).mono ?_
          (case side1 => repeat (first | exact (Kd.R_reads' HO106.out).2.2 | (with_reducible refine Kd.C_alloc ?_ _) | (with_reducible refine Kd.C_drewN ?_ _) | (with_reducible refine Kd.C_drew ?_)))
          (case side2 => exact (Kd.R_reads' HO106.out).2.1)
          rintro e w61 ⟨rfl, hb⟩
          refine ⟨_, rfl, ?_⟩
          have n0_ := Aside0.mk (Kd.R_below (by (with_reducible repeat (first | apply Kd.R_alloc | apply Kd.R_drewN | apply Kd.R_drew)); exact HO106.out) hb)
          have n1_ := Aside0.mk (Kd.R_below (by (with_reducible repeat (first | apply Kd.R_alloc | apply Kd.R_drewN | apply Kd.R_drew)); exact HO109.out) hb)
          have n2_ := Aside0.mk (Kd.R_below (by (with_reducible repeat (first | apply Kd.R_alloc | apply Kd.R_drewN | apply Kd.R_drew)); exact HO115.out) hb)
          have n3_ := Aside0.mk (Kd.R_below (by (with_reducible repeat (first | apply Kd.R_alloc | apply Kd.R_drewN | apply Kd.R_drew)); exact HO119.out) hb)
          have n4_ := Aside0.mk (blk_below (g := gb101) (o := .cells #[.slice A1_0 l1_0.length c1_0, .slice A1_1 l1_1.length c1_1] 24 (0, 0)) (by (with_reducible repeat (first | refine blk_drewN ?_ _ | refine blk_drew ?_ | refine blk_alloc ?_ _)); exact BK101.out) hb)
          have n5_ := Aside0.mk (blk_below (g := gb102) (o := .cells #[.int .i64 a2_0, .int .i64 a2_1] 25 (0, 0)) (by (with_reducible repeat (first | refine blk_drewN ?_ _ | refine blk_drew ?_ | refine blk_alloc ?_ _)); exact BK102.out) hb)
          have n6_ := Aside0.mk (below_step (by repeat (first | (with_reducible first | exact HB.out | apply below_alloc | apply pw_below_drewN | apply below_drew1 | refine below_set ?_ GE101.out | refine below_set ?_ GE102.out) | exact HB.out)) hb)
          clear HO106 HO109 HO115 HO119 BK101 BK102 HB; have HO106 := n0_; have HO109 := n1_; have HO115 := n2_; have HO119 := n3_; have BK101 := n4_; have BK102 := n5_; have HB := n6_; clear n0_ n1_ n2_ n3_ n4_ n5_ n6_; (try clear hb); (try clear hb2); (try clear hk); (try clear hi)
          refine hK.out _ _ ⟨(blk_cell BK102.out 0).trans rfl, (blk_cell BK102.out 1).trans rfl⟩ (fun hHeld => ?_)
          clear hK K
          refine nX (some 60) ?_
          refine oX (i := 28) (N := some 64) rfl rfl HT_ (fun K hK => ?_)
          refine goes_ Try.func23 (by kernel_rfl) rfl #[.slice Ao53 t104.length co53, .int .i64 a2_0] (by rfl) rfl rfl (by (try simp only [List.map_toArray, List.map_cons, List.map_nil]); first | done | rfl | (simp only [List.length_drop, List.length_take]; rfl)) ?_
          with_reducible refine (paroleref37_Of.calls kj5 _ _ t104 a2_0 t124 t125 _ ?side1 ?side2 A33.out).mono ?_
          (case side1 => repeat (first | exact (Kd.R_reads' HO106.out).2.2 | (with_reducible refine Kd.C_alloc ?_ _) | (with_reducible refine Kd.C_drewN ?_ _) | (with_reducible refine Kd.C_drew ?_)))
          (case side2 => exact (Kd.R_reads' HO106.out).2.1)
          rintro e w62 ⟨rfl, hb⟩
          refine ⟨_, rfl, ?_⟩
          have n0_ := Aside0.mk (Kd.R_below (by (with_reducible repeat (first | apply Kd.R_alloc | apply Kd.R_drewN | apply Kd.R_drew)); exact HO106.out) hb)
          have n1_ := Aside0.mk (Kd.R_below (by (with_reducible repeat (first | apply Kd.R_alloc | apply Kd.R_drewN | apply Kd.R_drew)); exact HO109.out) hb)
          have n2_ := Aside0.mk (Kd.R_below (by (with_reducible repeat (first | apply Kd.R_alloc | apply Kd.R_drewN | apply Kd.R_drew)); exact HO115.out) hb)
          have n3_ := Aside0.mk (Kd.R_below (by (with_reducible repeat (first | apply Kd.R_alloc | apply Kd.R_drewN | apply Kd.R_drew)); exact HO119.out) hb)
          have n4_ := Aside0.mk (blk_below (g := gb101) (o := .cells #[.slice A1_0 l1_0.length c1_0, .slice A1_1 l1_1.length c1_1] 24 (0, 0)) (by (with_reducible repeat (first | refine blk_drewN ?_ _ | refine blk_drew ?_ | refine blk_alloc ?_ _)); exact BK101.out) hb)
          have n5_ := Aside0.mk (blk_below (g := gb102) (o := .cells #[.int .i64 a2_0, .int .i64 a2_1] 25 (0, 0)) (by (with_reducible repeat (first | refine blk_drewN ?_ _ | refine blk_drew ?_ | refine blk_alloc ?_ _)); exact BK102.out) hb)
          have n6_ := Aside0.mk (below_step (by repeat (first | (with_reducible first | exact HB.out | apply below_alloc | apply pw_below_drewN | apply below_drew1 | refine below_set ?_ GE101.out | refine below_set ?_ GE102.out) | exact HB.out)) hb)
          clear HO106 HO109 HO115 HO119 BK101 BK102 HB; have HO106 := n0_; have HO109 := n1_; have HO115 := n2_; have HO119 := n3_; have BK101 := n4_; have BK102 := n5_; have HB := n6_; clear n0_ n1_ n2_ n3_ n4_ n5_ n6_; (try clear hb); (try clear hb2); (try clear hk); (try clear hi)
          refine hK.out _ _ ⟨(blk_cell BK102.out 0).trans rfl, (blk_cell BK102.out 1).trans rfl⟩ (fun hHeld => ?_)
          clear hK K
          refine nX (some 64) ?_
          refine pX (i := 29) (N := some 65) rfl rfl HT_ ?_
          refine pX (i := 30) (N := some 66) rfl rfl HT_ ?_
          refine pX (i := 31) (N := some 67) rfl rfl HT_ ?_
          refine pX (i := 32) (N := some 68) rfl rfl HT_ ?_
          refine pX (i := 33) (N := some 69) rfl rfl HT_ ?_
          refine pX (i := 35) (N := some 71) rfl rfl HT_ ?_
          refine pX (i := 38) (N := some 74) rfl rfl HT_ ?_
          refine pX (i := 39) (N := some 75) rfl rfl HT_ ?_
          refine pX (i := 41) (N := some 77) rfl rfl HT_ ?_
          refine tX (i := 34) (N := some 70) rfl rfl HT_ HW_ hHeld (Or.inl ⟨by rfl, by rintro w' ⟨s0, s1⟩; go_simp; with_reducible rfl⟩) ?_
          refine tX (i := 36) (N := some 72) rfl rfl HT_ HW_ hHeld (Or.inl ⟨by rfl, by rintro w' ⟨s0, s1⟩; go_simp; with_reducible rfl⟩) ?_
          refine tX (i := 40) (N := some 76) rfl rfl HT_ HW_ hHeld (Or.inl ⟨by rfl, by rintro w' ⟨s0, s1⟩; go_simp; with_reducible rfl⟩) ?_
          refine tX (i := 42) (N := some 78) rfl rfl HT_ HW_ hHeld (Or.inl ⟨by rfl, by rintro w' ⟨s0, s1⟩; go_simp; with_reducible rfl⟩) ?_
          refine oX (i := 37) (N := some 73) rfl rfl HT_ (fun K hK => ?_)
          refine goes_ Try.func24 (by kernel_rfl) rfl #[.slice Ao53 t104.length co53, .int .i64 a2_0, .int .i64 a2_1] (by rfl) rfl rfl (by (try simp only [List.map_toArray, List.map_cons, List.map_nil]); first | done | rfl | (simp only [List.length_drop, List.length_take]; rfl)) ?_
          with_reducible refine (parolelaw37_loss.calls kj5 _ _ t104 a2_0 a2_1 t126 t127 t128 _ ?side1 ?side2 A48.out).mono ?_
          (case side1 => repeat (first | exact (Kd.R_reads' HO106.out).2.2 | (with_reducible refine Kd.C_alloc ?_ _) | (with_reducible refine Kd.C_drewN ?_ _) | (with_reducible refine Kd.C_drew ?_)))
          (case side2 => exact (Kd.R_reads' HO106.out).2.1)
          rintro e w63 ⟨rfl, hb⟩
          refine ⟨_, rfl, ?_⟩
          have n0_ := Aside0.mk (Kd.R_below (by (with_reducible repeat (first | apply Kd.R_alloc | apply Kd.R_drewN | apply Kd.R_drew)); exact HO106.out) hb)
          have n1_ := Aside0.mk (Kd.R_below (by (with_reducible repeat (first | apply Kd.R_alloc | apply Kd.R_drewN | apply Kd.R_drew)); exact HO109.out) hb)
          have n2_ := Aside0.mk (Kd.R_below (by (with_reducible repeat (first | apply Kd.R_alloc | apply Kd.R_drewN | apply Kd.R_drew)); exact HO115.out) hb)
          have n3_ := Aside0.mk (Kd.R_below (by (with_reducible repeat (first | apply Kd.R_alloc | apply Kd.R_drewN | apply Kd.R_drew)); exact HO119.out) hb)
          have n4_ := Aside0.mk (blk_below (g := gb101) (o := .cells #[.slice A1_0 l1_0.length c1_0, .slice A1_1 l1_1.length c1_1] 24 (0, 0)) (by (with_reducible repeat (first | refine blk_drewN ?_ _ | refine blk_drew ?_ | refine blk_alloc ?_ _)); exact BK101.out) hb)
          have n5_ := Aside0.mk (blk_below (g := gb102) (o := .cells #[.int .i64 a2_0, .int .i64 a2_1] 25 (0, 0)) (by (with_reducible repeat (first | refine blk_drewN ?_ _ | refine blk_drew ?_ | refine blk_alloc ?_ _)); exact BK102.out) hb)
          have n6_ := Aside0.mk (below_step (by repeat (first | (with_reducible first | exact HB.out | apply below_alloc | apply pw_below_drewN | apply below_drew1 | refine below_set ?_ GE101.out | refine below_set ?_ GE102.out) | exact HB.out)) hb)
          clear HO106 HO109 HO115 HO119 BK101 BK102 HB; have HO106 := n0_; have HO109 := n1_; have HO115 := n2_; have HO119 := n3_; have BK101 := n4_; have BK102 := n5_; have HB := n6_; clear n0_ n1_ n2_ n3_ n4_ n5_ n6_; (try clear hb); (try clear hb2); (try clear hk); (try clear hi)
          refine hK.out _ _ ⟨(blk_cell BK102.out 0).trans rfl, (blk_cell BK102.out 1).trans rfl⟩ (fun hHeld => ?_)
          clear hK K
          refine nX (some 73) ?_
          refine oX (i := 43) (N := some 79) rfl rfl HT_ (fun K hK => ?_)
          refine goes_ Try.func25 (by kernel_rfl) rfl #[.slice Ao53 t104.length co53, .int .i64 a2_0, .int .i64 a2_1] (by rfl) rfl rfl (by (try simp only [List.map_toArray, List.map_cons, List.map_nil]); first | done | rfl | (simp only [List.length_drop, List.length_take]; rfl)) ?_
          with_reducible refine (paroleref37_Loss.calls kj5 _ _ t104 a2_0 a2_1 t129 t130 t131 _ ?side1 ?side2 A49.out).mono ?_
          (case side1 => repeat (first | exact (Kd.R_reads' HO106.out).2.2 | (with_reducible refine Kd.C_alloc ?_ _) | (with_reducible refine Kd.C_drewN ?_ _) | (with_reducible refine Kd.C_drew ?_)))
          (case side2 => exact (Kd.R_reads' HO106.out).2.1)
          rintro e w64 ⟨rfl, hb⟩
          refine ⟨_, rfl, ?_⟩
          have n0_ := Aside0.mk (Kd.R_below (by (with_reducible repeat (first | apply Kd.R_alloc | apply Kd.R_drewN | apply Kd.R_drew)); exact HO106.out) hb)
          have n1_ := Aside0.mk (Kd.R_below (by (with_reducible repeat (first | apply Kd.R_alloc | apply Kd.R_drewN | apply Kd.R_drew)); exact HO109.out) hb)
          have n2_ := Aside0.mk (Kd.R_below (by (with_reducible repeat (first | apply Kd.R_alloc | apply Kd.R_drewN | apply Kd.R_drew)); exact HO115.out) hb)
          have n3_ := Aside0.mk (Kd.R_below (by (with_reducible repeat (first | apply Kd.R_alloc | apply Kd.R_drewN | apply Kd.R_drew)); exact HO119.out) hb)
          have n4_ := Aside0.mk (blk_below (g := gb101) (o := .cells #[.slice A1_0 l1_0.length c1_0, .slice A1_1 l1_1.length c1_1] 24 (0, 0)) (by (with_reducible repeat (first | refine blk_drewN ?_ _ | refine blk_drew ?_ | refine blk_alloc ?_ _)); exact BK101.out) hb)
          have n5_ := Aside0.mk (blk_below (g := gb102) (o := .cells #[.int .i64 a2_0, .int .i64 a2_1] 25 (0, 0)) (by (with_reducible repeat (first | refine blk_drewN ?_ _ | refine blk_drew ?_ | refine blk_alloc ?_ _)); exact BK102.out) hb)
          have n6_ := Aside0.mk (below_step (by repeat (first | (with_reducible first | exact HB.out | apply below_alloc | apply pw_below_drewN | apply below_drew1 | refine below_set ?_ GE101.out | refine below_set ?_ GE102.out) | exact HB.out)) hb)
          clear HO106 HO109 HO115 HO119 BK101 BK102 HB; have HO106 := n0_; have HO109 := n1_; have HO115 := n2_; have HO119 := n3_; have BK101 := n4_; have BK102 := n5_; have HB := n6_; clear n0_ n1_ n2_ n3_ n4_ n5_ n6_; (try clear hb); (try clear hb2); (try clear hk); (try clear hi)
          refine hK.out _ _ ⟨(blk_cell BK102.out 0).trans rfl, (blk_cell BK102.out 1).trans rfl⟩ (fun hHeld => ?_)
          clear hK K
          refine nX (some 79) ?_
          refine pX (i := 44) (N := some 80) rfl rfl HT_ ?_
          refine pX (i := 45) (N := some 81) rfl rfl HT_ ?_
          refine done_ (done_of HT_.out (by kernel_rfl)) ?_
          try go_wp2
          go_meet
          case rel => exact ⟨_, (((!(t126 == t129) || (!(t127 == t130))) || (!(t128 == t131)))), (by first | rfl | (simp; done) | (simp [*]; done)), H', ⟨by have := HJ5.out; first | omega | exact Nat.le_refl _⟩, ⟨by (with_reducible repeat (first | apply Kd.R_alloc | apply Kd.R_drewN | apply Kd.R_drew)); exact Kd.R_mono HO106.out (fun _ hk => hk.1.1.2)⟩, ⟨by (with_reducible repeat (first | apply Kd.R_alloc | apply Kd.R_drewN | apply Kd.R_drew)); exact Kd.R_mono HO109.out (fun _ hk => hk.1.1.2)⟩, ⟨by (with_reducible repeat (first | refine blk_drewN ?_ _ | refine blk_drew ?_ | refine blk_alloc ?_ _)); exact BK101.out⟩, ⟨by (with_reducible repeat (first | refine blk_drewN ?_ _ | refine blk_drew ?_ | refine blk_alloc ?_ _)); exact BK102.out⟩, ⟨by repeat (first | (with_reducible first | exact HB.out | apply below_alloc | apply pw_below_drewN | apply below_drew1 | refine below_set ?_ GE101.out | refine below_set ?_ GE102.out) | exact HB.out)⟩⟩
        ·replace c31 := Bool.eq_false_iff.mpr c31
         subst c31
         have H1 : (parolelaw37_OddsMatchesReference.j1 kj5 true t104 t107 true a2_0 a2_1) = some r := by rw [if_neg (show ¬ (false = true) by decide)] at H; exact H
         clear H
         have H := H1
         clear H1
         have H' := Aside0.mk H
         clear H
         try go_wp2
         have n0_ := Aside0.mk (Kd.R_drew HO106.out)
         have n1_ := Aside0.mk (Kd.R_drew HO109.out)
         have n2_ := Aside0.mk (blk_drew BK101.out)
         have n3_ := Aside0.mk (blk_drew BK102.out)
         have n4_ := Aside0.mk (below_drew1 HB.out)
         clear HO106 HO109 BK101 BK102 HB; have HO106 := n0_; have HO109 := n1_; have BK101 := n2_; have BK102 := n3_; have HB := n4_; clear n0_ n1_ n2_ n3_ n4_
         refine start_ (n := 46) (S := fun w' => True) (ds := []) #[false, false, false, false, false, false, false, false, false, false, false, false, false, false, false, false, false, false, false, false, false, false, false, false, false, false, false, false, false, false, false, false, false, false, false, false, false, false, false, false, false, false, false, false, false, false] (by kernel_rfl) rfl rfl trivial (fun hHeld => ?_); refine with_tabW parolelaw37_OddsMatchesReference.tab7 parolelaw37_OddsMatchesReference.bits7 (fun HT_ HW_ => ?_)
         generalize w22.drew = w65 at HO106 HO109 BK101 BK102 HB hHeld ⊢
         refine pX (i := 0) (N := some 36) rfl rfl HT_ ?_
         refine pX (i := 2) (N := some 38) rfl rfl HT_ ?_
         refine oX (i := 1) (N := some 37) rfl rfl HT_ (fun K hK => ?_)
         refine goes_ Try.func17 (by kernel_rfl) rfl #[.slice A0 l0.length c0] (by rfl) rfl rfl (by (try simp only [List.map_toArray, List.map_cons, List.map_nil]); first | done | rfl | (simp only [List.length_drop, List.length_take]; rfl)) ?_
         with_reducible refine (odds_Right.calls kj5 _ _ l0 t110 _ ?side1 ?side2 A23.out).mono ?_
         (case side1 => repeat (first | exact (Kd.C_below HR0.out HB.out) | (with_reducible refine Kd.C_alloc ?_ _) | (with_reducible refine Kd.C_drewN ?_ _) | (with_reducible refine Kd.C_drew ?_)))
         (case side2 => exact HC0.out)
         rintro e w66 ⟨rfl, hb⟩
         refine ⟨_, rfl, ?_⟩
         have n0_ := Aside0.mk (Kd.R_below (by (with_reducible repeat (first | apply Kd.R_alloc | apply Kd.R_drewN | apply Kd.R_drew)); exact HO106.out) hb)
         have n1_ := Aside0.mk (Kd.R_below (by (with_reducible repeat (first | apply Kd.R_alloc | apply Kd.R_drewN | apply Kd.R_drew)); exact HO109.out) hb)
         have n2_ := Aside0.mk (blk_below (g := gb101) (o := .cells #[.slice A1_0 l1_0.length c1_0, .slice A1_1 l1_1.length c1_1] 24 (0, 0)) (by (with_reducible repeat (first | refine blk_drewN ?_ _ | refine blk_drew ?_ | refine blk_alloc ?_ _)); exact BK101.out) hb)
         have n3_ := Aside0.mk (blk_below (g := gb102) (o := .cells #[.int .i64 a2_0, .int .i64 a2_1] 25 (0, 0)) (by (with_reducible repeat (first | refine blk_drewN ?_ _ | refine blk_drew ?_ | refine blk_alloc ?_ _)); exact BK102.out) hb)
         have n4_ := Aside0.mk (below_step (by repeat (first | (with_reducible first | exact HB.out | apply below_alloc | apply pw_below_drewN | apply below_drew1 | refine below_set ?_ GE101.out | refine below_set ?_ GE102.out) | exact HB.out)) hb)
         clear HO106 HO109 BK101 BK102 HB; have HO106 := n0_; have HO109 := n1_; have BK101 := n2_; have BK102 := n3_; have HB := n4_; clear n0_ n1_ n2_ n3_ n4_; (try clear hb); (try clear hb2); (try clear hk); (try clear hi)
         refine hK.out _ _ trivial (fun hHeld => ?_)
         clear hK K
         refine nX (some 37) ?_
         refine oX (i := 3) (N := some 39) rfl rfl HT_ (fun K hK => ?_)
         refine goes_ Try.func18 (by kernel_rfl) rfl #[.slice A0 l0.length c0] (by rfl) rfl rfl (by (try simp only [List.map_toArray, List.map_cons, List.map_nil]); first | done | rfl | (simp only [List.length_drop, List.length_take]; rfl)) ?_
         with_reducible refine (paroleref37_Right.calls kj5 _ _ l0 t111 _ ?side1 ?side2 A24.out).mono ?_
         (case side1 => repeat (first | exact (Kd.C_below HR0.out HB.out) | (with_reducible refine Kd.C_alloc ?_ _) | (with_reducible refine Kd.C_drewN ?_ _) | (with_reducible refine Kd.C_drew ?_)))
         (case side2 => exact HC0.out)
         rintro e w67 ⟨rfl, hb⟩
         refine ⟨_, rfl, ?_⟩
         have n0_ := Aside0.mk (Kd.R_below (by (with_reducible repeat (first | apply Kd.R_alloc | apply Kd.R_drewN | apply Kd.R_drew)); exact HO106.out) hb)
         have n1_ := Aside0.mk (Kd.R_below (by (with_reducible repeat (first | apply Kd.R_alloc | apply Kd.R_drewN | apply Kd.R_drew)); exact HO109.out) hb)
         have n2_ := Aside0.mk (blk_below (g := gb101) (o := .cells #[.slice A1_0 l1_0.length c1_0, .slice A1_1 l1_1.length c1_1] 24 (0, 0)) (by (with_reducible repeat (first | refine blk_drewN ?_ _ | refine blk_drew ?_ | refine blk_alloc ?_ _)); exact BK101.out) hb)
         have n3_ := Aside0.mk (blk_below (g := gb102) (o := .cells #[.int .i64 a2_0, .int .i64 a2_1] 25 (0, 0)) (by (with_reducible repeat (first | refine blk_drewN ?_ _ | refine blk_drew ?_ | refine blk_alloc ?_ _)); exact BK102.out) hb)
         have n4_ := Aside0.mk (below_step (by repeat (first | (with_reducible first | exact HB.out | apply below_alloc | apply pw_below_drewN | apply below_drew1 | refine below_set ?_ GE101.out | refine below_set ?_ GE102.out) | exact HB.out)) hb)
         clear HO106 HO109 BK101 BK102 HB; have HO106 := n0_; have HO109 := n1_; have BK101 := n2_; have BK102 := n3_; have HB := n4_; clear n0_ n1_ n2_ n3_ n4_; (try clear hb); (try clear hb2); (try clear hk); (try clear hi)
         obtain ⟨Ao68, co68, eo68⟩ := Kd.R_slice HO106.out
         (first | subst eo68 | (injection eo68 with f1_ f2_ f3_; have f4_ := f1_.symm; have f5_ := f3_.symm; clear f1_ f2_ f3_; subst f4_; subst f5_))
         refine hK.out _ _ trivial (fun hHeld => ?_)
         clear hK K
         refine nX (some 39) ?_
         refine pX (i := 4) (N := some 40) rfl rfl HT_ ?_
         refine pX (i := 5) (N := some 41) rfl rfl HT_ ?_
         refine pX (i := 6) (N := some 42) rfl rfl HT_ ?_
         refine oX (i := 7) (N := some 43) rfl rfl HT_ (fun K hK => ?_)
         refine goes_ Try.func17 (by kernel_rfl) rfl #[.slice Ao68 t104.length co68] (by rfl) rfl rfl (by (try simp only [List.map_toArray, List.map_cons, List.map_nil]); first | done | rfl | (simp only [List.length_drop, List.length_take]; rfl)) ?_
         with_reducible refine (odds_Right.calls kj5 _ _ t104 t112 _ ?side1 ?side2 A26.out).mono ?_
         (case side1 => repeat (first | exact (Kd.R_reads' HO106.out).2.2 | (with_reducible refine Kd.C_alloc ?_ _) | (with_reducible refine Kd.C_drewN ?_ _) | (with_reducible refine Kd.C_drew ?_)))
         (case side2 => exact (Kd.R_reads' HO106.out).2.1)
         rintro e w69 ⟨rfl, hb⟩
         refine ⟨_, rfl, ?_⟩
         have n0_ := Aside0.mk (Kd.R_below (by (with_reducible repeat (first | apply Kd.R_alloc | apply Kd.R_drewN | apply Kd.R_drew)); exact HO106.out) hb)
         have n1_ := Aside0.mk (Kd.R_below (by (with_reducible repeat (first | apply Kd.R_alloc | apply Kd.R_drewN | apply Kd.R_drew)); exact HO109.out) hb)
         have n2_ := Aside0.mk (blk_below (g := gb101) (o := .cells #[.slice A1_0 l1_0.length c1_0, .slice A1_1 l1_1.length c1_1] 24 (0, 0)) (by (with_reducible repeat (first | refine blk_drewN ?_ _ | refine blk_drew ?_ | refine blk_alloc ?_ _)); exact BK101.out) hb)
         have n3_ := Aside0.mk (blk_below (g := gb102) (o := .cells #[.int .i64 a2_0, .int .i64 a2_1] 25 (0, 0)) (by (with_reducible repeat (first | refine blk_drewN ?_ _ | refine blk_drew ?_ | refine blk_alloc ?_ _)); exact BK102.out) hb)
         have n4_ := Aside0.mk (below_step (by repeat (first | (with_reducible first | exact HB.out | apply below_alloc | apply pw_below_drewN | apply below_drew1 | refine below_set ?_ GE101.out | refine below_set ?_ GE102.out) | exact HB.out)) hb)
         clear HO106 HO109 BK101 BK102 HB; have HO106 := n0_; have HO109 := n1_; have BK101 := n2_; have BK102 := n3_; have HB := n4_; clear n0_ n1_ n2_ n3_ n4_; (try clear hb); (try clear hb2); (try clear hk); (try clear hi)
         obtain ⟨Ao70, co70, eo70⟩ := Kd.R_slice HO109.out
         (first | subst eo70 | (injection eo70 with f1_ f2_ f3_; have f4_ := f1_.symm; have f5_ := f3_.symm; clear f1_ f2_ f3_; subst f4_; subst f5_))
         refine hK.out _ _ trivial (fun hHeld => ?_)
         clear hK K
         refine nX (some 43) ?_
         refine pX (i := 8) (N := some 44) rfl rfl HT_ ?_
         refine pX (i := 9) (N := some 45) rfl rfl HT_ ?_
         refine pX (i := 10) (N := some 46) rfl rfl HT_ ?_
         refine pX (i := 11) (N := some 47) rfl rfl HT_ ?_
         refine pX (i := 12) (N := some 48) rfl rfl HT_ ?_
         refine pX (i := 14) (N := some 50) rfl rfl HT_ ?_
         refine pX (i := 15) (N := some 51) rfl rfl HT_ ?_
         refine oX (i := 13) (N := some 49) rfl rfl HT_ (fun K hK => ?_)
         refine goes_ Try.func20 (by kernel_rfl) rfl #[.slice Ao68 t104.length co68, .slice Ao70 t107.length co70] (by rfl) rfl rfl (by (try simp only [List.map_toArray, List.map_cons, List.map_nil]); first | done | rfl | (simp only [List.length_drop, List.length_take]; rfl)) ?_
         with_reducible refine (parolelaw37_joined.calls kj5 _ _ t104 _ _ t107 t113 t116 _ ?side1 ?side2 ?side3 ?side4 A28.out).mono ?_
         (case side1 => repeat (first | exact (Kd.R_reads' HO106.out).2.2 | (with_reducible refine Kd.C_alloc ?_ _) | (with_reducible refine Kd.C_drewN ?_ _) | (with_reducible refine Kd.C_drew ?_)))
         (case side2 => exact (Kd.R_reads' HO106.out).2.1)
         (case side3 => repeat (first | exact (Kd.R_reads' HO109.out).2.2 | (with_reducible refine Kd.C_alloc ?_ _) | (with_reducible refine Kd.C_drewN ?_ _) | (with_reducible refine Kd.C_drew ?_)))
         (case side4 => exact (Kd.R_reads' HO109.out).2.1)
         rintro e w71 ⟨v114, rfl, ho0, hb⟩
         refine ⟨_, rfl, ?_⟩
         have n0_ := Aside0.mk (Kd.R_elder' (by (with_reducible repeat (first | apply Kd.R_alloc | apply Kd.R_drewN | apply Kd.R_drew)); exact HO106.out) (Kd.R_base ho0) hb)
         have n1_ := Aside0.mk (Kd.R_elder' (by (with_reducible repeat (first | apply Kd.R_alloc | apply Kd.R_drewN | apply Kd.R_drew)); exact HO109.out) (Kd.R_base ho0) hb)
         have n2_ := Aside0.mk (Kd.R_lower (Kd.R_new' (Kd.R_new' ho0 (Kd.R_lt (by (with_reducible repeat (first | apply Kd.R_alloc | apply Kd.R_drewN | apply Kd.R_drew)); exact HO106.out))) (Kd.R_lt (by (with_reducible repeat (first | apply Kd.R_alloc | apply Kd.R_drewN | apply Kd.R_drew)); exact HO109.out))) (below_size (by repeat (first | (with_reducible first | exact HB.out | apply below_alloc | apply pw_below_drewN | apply below_drew1 | refine below_set ?_ GE101.out | refine below_set ?_ GE102.out) | exact HB.out))))
         have n3_ := Aside0.mk (blk_below (g := gb101) (o := .cells #[.slice A1_0 l1_0.length c1_0, .slice A1_1 l1_1.length c1_1] 24 (0, 0)) (by (with_reducible repeat (first | refine blk_drewN ?_ _ | refine blk_drew ?_ | refine blk_alloc ?_ _)); exact BK101.out) hb)
         have n4_ := Aside0.mk (blk_below (g := gb102) (o := .cells #[.int .i64 a2_0, .int .i64 a2_1] 25 (0, 0)) (by (with_reducible repeat (first | refine blk_drewN ?_ _ | refine blk_drew ?_ | refine blk_alloc ?_ _)); exact BK102.out) hb)
         have n5_ := Aside0.mk (below_step (by repeat (first | (with_reducible first | exact HB.out | apply below_alloc | apply pw_below_drewN | apply below_drew1 | refine below_set ?_ GE101.out | refine below_set ?_ GE102.out) | exact HB.out)) hb)
         clear HO106 HO109 BK101 BK102 HB; have HO106 := n0_; have HO109 := n1_; have HO115 := n2_; have BK101 := n3_; have BK102 := n4_; have HB := n5_; clear n0_ n1_ n2_ n3_ n4_ n5_; (try clear hb); (try clear hb2); (try clear hk); (try clear hi); (try clear ho0)
         refine hK.out _ _ trivial (fun hHeld => ?_)
         clear hK K
         refine nX (some 49) ?_
         refine oX (i := 16) (N := some 52) rfl rfl HT_ (fun K hK => ?_)
         refine goes_ Try.func21 (by kernel_rfl) rfl #[.slice Ao68 t104.length co68, .slice Ao70 t107.length co70] (by rfl) rfl rfl (by (try simp only [List.map_toArray, List.map_cons, List.map_nil]); first | done | rfl | (simp only [List.length_drop, List.length_take]; rfl)) ?_
         with_reducible refine (paroleref37_Join.calls kj5 _ _ t104 _ _ t107 t117 t120 _ ?side1 ?side2 ?side3 ?side4 A29.out).mono ?_
         (case side1 => repeat (first | exact (Kd.R_reads' HO106.out).2.2 | (with_reducible refine Kd.C_alloc ?_ _) | (with_reducible refine Kd.C_drewN ?_ _) | (with_reducible refine Kd.C_drew ?_)))
         (case side2 => exact (Kd.R_reads' HO106.out).2.1)
         (case side3 => repeat (first | exact (Kd.R_reads' HO109.out).2.2 | (with_reducible refine Kd.C_alloc ?_ _) | (with_reducible refine Kd.C_drewN ?_ _) | (with_reducible refine Kd.C_drew ?_)))
         (case side4 => exact (Kd.R_reads' HO109.out).2.1)
         rintro e w72 ⟨v118, rfl, ho0, hb⟩
         refine ⟨_, rfl, ?_⟩
         have n0_ := Aside0.mk (Kd.R_elder' (by (with_reducible repeat (first | apply Kd.R_alloc | apply Kd.R_drewN | apply Kd.R_drew)); exact HO106.out) (Kd.R_base ho0) hb)
         have n1_ := Aside0.mk (Kd.R_elder' (by (with_reducible repeat (first | apply Kd.R_alloc | apply Kd.R_drewN | apply Kd.R_drew)); exact HO109.out) (Kd.R_base ho0) hb)
         have n2_ := Aside0.mk (Kd.R_elder' (by (with_reducible repeat (first | apply Kd.R_alloc | apply Kd.R_drewN | apply Kd.R_drew)); exact HO115.out) (Kd.R_base ho0) hb)
         have n3_ := Aside0.mk (Kd.R_lower (Kd.R_new' (Kd.R_new' (Kd.R_new' ho0 (Kd.R_lt (by (with_reducible repeat (first | apply Kd.R_alloc | apply Kd.R_drewN | apply Kd.R_drew)); exact HO106.out))) (Kd.R_lt (by (with_reducible repeat (first | apply Kd.R_alloc | apply Kd.R_drewN | apply Kd.R_drew)); exact HO109.out))) (Kd.R_lt (by (with_reducible repeat (first | apply Kd.R_alloc | apply Kd.R_drewN | apply Kd.R_drew)); exact HO115.out))) (below_size (by repeat (first | (with_reducible first | exact HB.out | apply below_alloc | apply pw_below_drewN | apply below_drew1 | refine below_set ?_ GE101.out | refine below_set ?_ GE102.out) | exact HB.out))))
         have n4_ := Aside0.mk (blk_below (g := gb101) (o := .cells #[.slice A1_0 l1_0.length c1_0, .slice A1_1 l1_1.length c1_1] 24 (0, 0)) (by (with_reducible repeat (first | refine blk_drewN ?_ _ | refine blk_drew ?_ | refine blk_alloc ?_ _)); exact BK101.out) hb)
         have n5_ := Aside0.mk (blk_below (g := gb102) (o := .cells #[.int .i64 a2_0, .int .i64 a2_1] 25 (0, 0)) (by (with_reducible repeat (first | refine blk_drewN ?_ _ | refine blk_drew ?_ | refine blk_alloc ?_ _)); exact BK102.out) hb)
         have n6_ := Aside0.mk (below_step (by repeat (first | (with_reducible first | exact HB.out | apply below_alloc | apply pw_below_drewN | apply below_drew1 | refine below_set ?_ GE101.out | refine below_set ?_ GE102.out) | exact HB.out)) hb)
         clear HO106 HO109 HO115 BK101 BK102 HB; have HO106 := n0_; have HO109 := n1_; have HO115 := n2_; have HO119 := n3_; have BK101 := n4_; have BK102 := n5_; have HB := n6_; clear n0_ n1_ n2_ n3_ n4_ n5_ n6_; (try clear hb); (try clear hb2); (try clear hk); (try clear hi); (try clear ho0)
         obtain ⟨Ao73, co73, eo73⟩ := Kd.R_slice HO115.out
         (first | subst eo73 | (injection eo73 with f1_ f2_ f3_; have f4_ := f1_.symm; have f5_ := f3_.symm; clear f1_ f2_ f3_; subst f4_; subst f5_))
         obtain ⟨Ao74, co74, eo74⟩ := Kd.R_slice HO119.out
         (first | subst eo74 | (injection eo74 with f1_ f2_ f3_; have f4_ := f1_.symm; have f5_ := f3_.symm; clear f1_ f2_ f3_; subst f4_; subst f5_))
         refine hK.out _ _ trivial (fun hHeld => ?_)
         clear hK K
         refine nX (some 52) ?_
         refine oX (i := 17) (N := some 53) rfl rfl HT_ (fun K hK => ?_)
         refine goes_ Try.func19 (by kernel_rfl) rfl #[.agg #[.slice Ao73 t113.length co73, .int .i64 t116], .agg #[.slice Ao74 t117.length co74, .int .i64 t120]] (by rfl) rfl rfl (by (try simp only [List.map_toArray, List.map_cons, List.map_nil]); first | done | rfl | (simp only [List.length_drop, List.length_take]; rfl)) ?_
         with_reducible refine (parolelaw37_same.calls kj5 _ _ t113 t116 _ _ t117 t120 false _ ?side1 ?side2 ?side3 ?side4 A30.out).mono ?_
         (case side1 => repeat (first | exact (Kd.R_reads' HO115.out).2.2 | (with_reducible refine Kd.C_alloc ?_ _) | (with_reducible refine Kd.C_drewN ?_ _) | (with_reducible refine Kd.C_drew ?_)))
         (case side2 => exact (Kd.R_reads' HO115.out).2.1)
         (case side3 => repeat (first | exact (Kd.R_reads' HO119.out).2.2 | (with_reducible refine Kd.C_alloc ?_ _) | (with_reducible refine Kd.C_drewN ?_ _) | (with_reducible refine Kd.C_drew ?_)))
         (case side4 => exact (Kd.R_reads' HO119.out).2.1)
         rintro e w75 ⟨rfl, hb⟩
         refine ⟨_, rfl, ?_⟩
         have n0_ := Aside0.mk (Kd.R_below (by (with_reducible repeat (first | apply Kd.R_alloc | apply Kd.R_drewN | apply Kd.R_drew)); exact HO106.out) hb)
         have n1_ := Aside0.mk (Kd.R_below (by (with_reducible repeat (first | apply Kd.R_alloc | apply Kd.R_drewN | apply Kd.R_drew)); exact HO109.out) hb)
         have n2_ := Aside0.mk (Kd.R_below (by (with_reducible repeat (first | apply Kd.R_alloc | apply Kd.R_drewN | apply Kd.R_drew)); exact HO115.out) hb)
         have n3_ := Aside0.mk (Kd.R_below (by (with_reducible repeat (first | apply Kd.R_alloc | apply Kd.R_drewN | apply Kd.R_drew)); exact HO119.out) hb)
         have n4_ := Aside0.mk (blk_below (g := gb101) (o := .cells #[.slice A1_0 l1_0.length c1_0, .slice A1_1 l1_1.length c1_1] 24 (0, 0)) (by (with_reducible repeat (first | refine blk_drewN ?_ _ | refine blk_drew ?_ | refine blk_alloc ?_ _)); exact BK101.out) hb)
         have n5_ := Aside0.mk (blk_below (g := gb102) (o := .cells #[.int .i64 a2_0, .int .i64 a2_1] 25 (0, 0)) (by (with_reducible repeat (first | refine blk_drewN ?_ _ | refine blk_drew ?_ | refine blk_alloc ?_ _)); exact BK102.out) hb)
         have n6_ := Aside0.mk (below_step (by repeat (first | (with_reducible first | exact HB.out | apply below_alloc | apply pw_below_drewN | apply below_drew1 | refine below_set ?_ GE101.out | refine below_set ?_ GE102.out) | exact HB.out)) hb)
         clear HO106 HO109 HO115 HO119 BK101 BK102 HB; have HO106 := n0_; have HO109 := n1_; have HO115 := n2_; have HO119 := n3_; have BK101 := n4_; have BK102 := n5_; have HB := n6_; clear n0_ n1_ n2_ n3_ n4_ n5_ n6_; (try clear hb); (try clear hb2); (try clear hk); (try clear hi)
         refine hK.out _ _ trivial (fun hHeld => ?_)
         clear hK K
         refine nX (some 53) ?_
         refine pX (i := 18) (N := some 54) rfl rfl HT_ ?_
         refine pX (i := 19) (N := some 55) rfl rfl HT_ ?_
         refine pX (i := 20) (N := some 56) rfl rfl HT_ ?_
         refine pU (i := 21) (N := some 57) rfl rfl HT_ ?_
         refine pU (i := 22) (N := some 58) rfl rfl HT_ ?_
         refine pU (i := 23) (N := some 59) rfl rfl HT_ ?_
         refine pU (i := 24) (N := some 60) rfl rfl HT_ ?_
         refine pU (i := 25) (N := some 61) rfl rfl HT_ ?_
         refine pU (i := 26) (N := some 62) rfl rfl HT_ ?_
         refine pU (i := 27) (N := some 63) rfl rfl HT_ ?_
         refine pU (i := 28) (N := some 64) rfl rfl HT_ ?_
         refine pU (i := 29) (N := some 65) rfl rfl HT_ ?_
         refine pX (i := 30) (N := some 66) rfl rfl HT_ ?_
         refine pX (i := 31) (N := some 67) rfl rfl HT_ ?_
         refine pU (i := 32) (N := some 68) rfl rfl HT_ ?_
         refine pU (i := 33) (N := some 69) rfl rfl HT_ ?_
         refine pU (i := 34) (N := some 70) rfl rfl HT_ ?_
         refine pU (i := 35) (N := some 71) rfl rfl HT_ ?_
         refine pU (i := 36) (N := some 72) rfl rfl HT_ ?_
         refine pU (i := 37) (N := some 73) rfl rfl HT_ ?_
         refine pU (i := 38) (N := some 74) rfl rfl HT_ ?_
         refine pU (i := 39) (N := some 75) rfl rfl HT_ ?_
         refine pU (i := 40) (N := some 76) rfl rfl HT_ ?_
         refine pU (i := 41) (N := some 77) rfl rfl HT_ ?_
         refine pU (i := 42) (N := some 78) rfl rfl HT_ ?_
         refine pU (i := 43) (N := some 79) rfl rfl HT_ ?_
         refine pU (i := 44) (N := some 80) rfl rfl HT_ ?_
         refine pX (i := 45) (N := some 81) rfl rfl HT_ ?_
         refine done_ (done_of HT_.out (by kernel_rfl)) ?_
         try go_wp2
         go_meet
         case rel => exact ⟨_, (true), (by first | rfl | (simp; done) | (simp [*]; done)), H', ⟨by have := HJ5.out; first | omega | exact Nat.le_refl _⟩, ⟨by (with_reducible repeat (first | apply Kd.R_alloc | apply Kd.R_drewN | apply Kd.R_drew)); exact Kd.R_mono HO106.out (fun _ hk => hk.1.1.2)⟩, ⟨by (with_reducible repeat (first | apply Kd.R_alloc | apply Kd.R_drewN | apply Kd.R_drew)); exact Kd.R_mono HO109.out (fun _ hk => hk.1.1.2)⟩, ⟨by (with_reducible repeat (first | refine blk_drewN ?_ _ | refine blk_drew ?_ | refine blk_alloc ?_ _)); exact BK101.out⟩, ⟨by (with_reducible repeat (first | refine blk_drewN ?_ _ | refine blk_drew ?_ | refine blk_alloc ?_ _)); exact BK102.out⟩, ⟨by repeat (first | (with_reducible first | exact HB.out | apply below_alloc | apply pw_below_drewN | apply below_drew1 | refine below_set ?_ GE101.out | refine below_set ?_ GE102.out) | exact HB.out)⟩⟩
       ·rw [if_neg c27] at H
        have c27b0 : (t112 == 0) = false := beq_eq_false_iff_ne.mpr c27
        have c27b1 : (t112 != 0) = true := bne_iff_ne.mpr c27
        have H' := Aside0.mk H
        clear H
        try go_wp2
        have n0_ := Aside0.mk (Kd.R_drew HO106.out)
        have n1_ := Aside0.mk (Kd.R_drew HO109.out)
        have n2_ := Aside0.mk (blk_drew BK101.out)
        have n3_ := Aside0.mk (blk_drew BK102.out)
        have n4_ := Aside0.mk (below_drew1 HB.out)
        clear HO106 HO109 BK101 BK102 HB; have HO106 := n0_; have HO109 := n1_; have BK101 := n2_; have BK102 := n3_; have HB := n4_; clear n0_ n1_ n2_ n3_ n4_
        refine start_ (n := 46) (S := fun w' => True) (ds := []) #[false, false, false, false, false, false, false, false, false, false, false, false, false, false, false, false, false, false, false, false, false, false, false, false, false, false, false, false, false, false, false, false, false, false, false, false, false, false, false, false, false, false, false, false, false, false] (by kernel_rfl) rfl rfl trivial (fun hHeld => ?_); refine with_tabW parolelaw37_OddsMatchesReference.tab7 parolelaw37_OddsMatchesReference.bits7 (fun HT_ HW_ => ?_)
        generalize w22.drew = w76 at HO106 HO109 BK101 BK102 HB hHeld ⊢
        refine pX (i := 0) (N := some 36) rfl rfl HT_ ?_
        refine pX (i := 2) (N := some 38) rfl rfl HT_ ?_
        refine oX (i := 1) (N := some 37) rfl rfl HT_ (fun K hK => ?_)
        refine goes_ Try.func17 (by kernel_rfl) rfl #[.slice A0 l0.length c0] (by rfl) rfl rfl (by (try simp only [List.map_toArray, List.map_cons, List.map_nil]); first | done | rfl | (simp only [List.length_drop, List.length_take]; rfl)) ?_
        with_reducible refine (odds_Right.calls kj5 _ _ l0 t110 _ ?side1 ?side2 A23.out).mono ?_
        (case side1 => repeat (first | exact (Kd.C_below HR0.out HB.out) | (with_reducible refine Kd.C_alloc ?_ _) | (with_reducible refine Kd.C_drewN ?_ _) | (with_reducible refine Kd.C_drew ?_)))
        (case side2 => exact HC0.out)
        rintro e w77 ⟨rfl, hb⟩
        refine ⟨_, rfl, ?_⟩
        have n0_ := Aside0.mk (Kd.R_below (by (with_reducible repeat (first | apply Kd.R_alloc | apply Kd.R_drewN | apply Kd.R_drew)); exact HO106.out) hb)
        have n1_ := Aside0.mk (Kd.R_below (by (with_reducible repeat (first | apply Kd.R_alloc | apply Kd.R_drewN | apply Kd.R_drew)); exact HO109.out) hb)
        have n2_ := Aside0.mk (blk_below (g := gb101) (o := .cells #[.slice A1_0 l1_0.length c1_0, .slice A1_1 l1_1.length c1_1] 24 (0, 0)) (by (with_reducible repeat (first | refine blk_drewN ?_ _ | refine blk_drew ?_ | refine blk_alloc ?_ _)); exact BK101.out) hb)
        have n3_ := Aside0.mk (blk_below (g := gb102) (o := .cells #[.int .i64 a2_0, .int .i64 a2_1] 25 (0, 0)) (by (with_reducible repeat (first | refine blk_drewN ?_ _ | refine blk_drew ?_ | refine blk_alloc ?_ _)); exact BK102.out) hb)
        have n4_ := Aside0.mk (below_step (by repeat (first | (with_reducible first | exact HB.out | apply below_alloc | apply pw_below_drewN | apply below_drew1 | refine below_set ?_ GE101.out | refine below_set ?_ GE102.out) | exact HB.out)) hb)
        clear HO106 HO109 BK101 BK102 HB; have HO106 := n0_; have HO109 := n1_; have BK101 := n2_; have BK102 := n3_; have HB := n4_; clear n0_ n1_ n2_ n3_ n4_; (try clear hb); (try clear hb2); (try clear hk); (try clear hi)
        refine hK.out _ _ trivial (fun hHeld => ?_)
        clear hK K
        refine nX (some 37) ?_
        refine oX (i := 3) (N := some 39) rfl rfl HT_ (fun K hK => ?_)
        refine goes_ Try.func18 (by kernel_rfl) rfl #[.slice A0 l0.length c0] (by rfl) rfl rfl (by (try simp only [List.map_toArray, List.map_cons, List.map_nil]); first | done | rfl | (simp only [List.length_drop, List.length_take]; rfl)) ?_
        with_reducible refine (paroleref37_Right.calls kj5 _ _ l0 t111 _ ?side1 ?side2 A24.out).mono ?_
        (case side1 => repeat (first | exact (Kd.C_below HR0.out HB.out) | (with_reducible refine Kd.C_alloc ?_ _) | (with_reducible refine Kd.C_drewN ?_ _) | (with_reducible refine Kd.C_drew ?_)))
        (case side2 => exact HC0.out)
        rintro e w78 ⟨rfl, hb⟩
        refine ⟨_, rfl, ?_⟩
        have n0_ := Aside0.mk (Kd.R_below (by (with_reducible repeat (first | apply Kd.R_alloc | apply Kd.R_drewN | apply Kd.R_drew)); exact HO106.out) hb)
        have n1_ := Aside0.mk (Kd.R_below (by (with_reducible repeat (first | apply Kd.R_alloc | apply Kd.R_drewN | apply Kd.R_drew)); exact HO109.out) hb)
        have n2_ := Aside0.mk (blk_below (g := gb101) (o := .cells #[.slice A1_0 l1_0.length c1_0, .slice A1_1 l1_1.length c1_1] 24 (0, 0)) (by (with_reducible repeat (first | refine blk_drewN ?_ _ | refine blk_drew ?_ | refine blk_alloc ?_ _)); exact BK101.out) hb)
        have n3_ := Aside0.mk (blk_below (g := gb102) (o := .cells #[.int .i64 a2_0, .int .i64 a2_1] 25 (0, 0)) (by (with_reducible repeat (first | refine blk_drewN ?_ _ | refine blk_drew ?_ | refine blk_alloc ?_ _)); exact BK102.out) hb)
        have n4_ := Aside0.mk (below_step (by repeat (first | (with_reducible first | exact HB.out | apply below_alloc | apply pw_below_drewN | apply below_drew1 | refine below_set ?_ GE101.out | refine below_set ?_ GE102.out) | exact HB.out)) hb)
        clear HO106 HO109 BK101 BK102 HB; have HO106 := n0_; have HO109 := n1_; have BK101 := n2_; have BK102 := n3_; have HB := n4_; clear n0_ n1_ n2_ n3_ n4_; (try clear hb); (try clear hb2); (try clear hk); (try clear hi)
        obtain ⟨Ao79, co79, eo79⟩ := Kd.R_slice HO106.out
        (first | subst eo79 | (injection eo79 with f1_ f2_ f3_; have f4_ := f1_.symm; have f5_ := f3_.symm; clear f1_ f2_ f3_; subst f4_; subst f5_))
        refine hK.out _ _ trivial (fun hHeld => ?_)
        clear hK K
        refine nX (some 39) ?_
        refine pX (i := 4) (N := some 40) rfl rfl HT_ ?_
        refine pX (i := 5) (N := some 41) rfl rfl HT_ ?_
        refine pX (i := 6) (N := some 42) rfl rfl HT_ ?_
        refine oX (i := 7) (N := some 43) rfl rfl HT_ (fun K hK => ?_)
        refine goes_ Try.func17 (by kernel_rfl) rfl #[.slice Ao79 t104.length co79] (by rfl) rfl rfl (by (try simp only [List.map_toArray, List.map_cons, List.map_nil]); first | done | rfl | (simp only [List.length_drop, List.length_take]; rfl)) ?_
        with_reducible refine (odds_Right.calls kj5 _ _ t104 t112 _ ?side1 ?side2 A26.out).mono ?_
        (case side1 => repeat (first | exact (Kd.R_reads' HO106.out).2.2 | (with_reducible refine Kd.C_alloc ?_ _) | (with_reducible refine Kd.C_drewN ?_ _) | (with_reducible refine Kd.C_drew ?_)))
        (case side2 => exact (Kd.R_reads' HO106.out).2.1)
        rintro e w80 ⟨rfl, hb⟩
        refine ⟨_, rfl, ?_⟩
        have n0_ := Aside0.mk (Kd.R_below (by (with_reducible repeat (first | apply Kd.R_alloc | apply Kd.R_drewN | apply Kd.R_drew)); exact HO106.out) hb)
        have n1_ := Aside0.mk (Kd.R_below (by (with_reducible repeat (first | apply Kd.R_alloc | apply Kd.R_drewN | apply Kd.R_drew)); exact HO109.out) hb)
        have n2_ := Aside0.mk (blk_below (g := gb101) (o := .cells #[.slice A1_0 l1_0.length c1_0, .slice A1_1 l1_1.length c1_1] 24 (0, 0)) (by (with_reducible repeat (first | refine blk_drewN ?_ _ | refine blk_drew ?_ | refine blk_alloc ?_ _)); exact BK101.out) hb)
        have n3_ := Aside0.mk (blk_below (g := gb102) (o := .cells #[.int .i64 a2_0, .int .i64 a2_1] 25 (0, 0)) (by (with_reducible repeat (first | refine blk_drewN ?_ _ | refine blk_drew ?_ | refine blk_alloc ?_ _)); exact BK102.out) hb)
        have n4_ := Aside0.mk (below_step (by repeat (first | (with_reducible first | exact HB.out | apply below_alloc | apply pw_below_drewN | apply below_drew1 | refine below_set ?_ GE101.out | refine below_set ?_ GE102.out) | exact HB.out)) hb)
        clear HO106 HO109 BK101 BK102 HB; have HO106 := n0_; have HO109 := n1_; have BK101 := n2_; have BK102 := n3_; have HB := n4_; clear n0_ n1_ n2_ n3_ n4_; (try clear hb); (try clear hb2); (try clear hk); (try clear hi)
        refine hK.out _ _ trivial (fun hHeld => ?_)
        clear hK K
        refine nX (some 43) ?_
        refine pX (i := 8) (N := some 44) rfl rfl HT_ ?_
        refine pX (i := 9) (N := some 45) rfl rfl HT_ ?_
        refine pX (i := 10) (N := some 46) rfl rfl HT_ ?_
        refine pU (i := 11) (N := some 47) rfl rfl HT_ ?_
        refine pU (i := 12) (N := some 48) rfl rfl HT_ ?_
        refine pU (i := 13) (N := some 49) rfl rfl HT_ ?_
        refine pU (i := 14) (N := some 50) rfl rfl HT_ ?_
        refine pU (i := 15) (N := some 51) rfl rfl HT_ ?_
        refine pU (i := 16) (N := some 52) rfl rfl HT_ ?_
        refine pU (i := 17) (N := some 53) rfl rfl HT_ ?_
        refine pU (i := 18) (N := some 54) rfl rfl HT_ ?_
        refine pX (i := 19) (N := some 55) rfl rfl HT_ ?_
        refine pX (i := 20) (N := some 56) rfl rfl HT_ ?_
        refine pU (i := 21) (N := some 57) rfl rfl HT_ ?_
        refine pU (i := 22) (N := some 58) rfl rfl HT_ ?_
        refine pU (i := 23) (N := some 59) rfl rfl HT_ ?_
        refine pU (i := 24) (N := some 60) rfl rfl HT_ ?_
        refine pU (i := 25) (N := some 61) rfl rfl HT_ ?_
        refine pU (i := 26) (N := some 62) rfl rfl HT_ ?_
        refine pU (i := 27) (N := some 63) rfl rfl HT_ ?_
        refine pU (i := 28) (N := some 64) rfl rfl HT_ ?_
        refine pU (i := 29) (N := some 65) rfl rfl HT_ ?_
        refine pX (i := 30) (N := some 66) rfl rfl HT_ ?_
        refine pX (i := 31) (N := some 67) rfl rfl HT_ ?_
        refine pU (i := 32) (N := some 68) rfl rfl HT_ ?_
        refine pU (i := 33) (N := some 69) rfl rfl HT_ ?_
        refine pU (i := 34) (N := some 70) rfl rfl HT_ ?_
        refine pU (i := 35) (N := some 71) rfl rfl HT_ ?_
        refine pU (i := 36) (N := some 72) rfl rfl HT_ ?_
        refine pU (i := 37) (N := some 73) rfl rfl HT_ ?_
        refine pU (i := 38) (N := some 74) rfl rfl HT_ ?_
        refine pU (i := 39) (N := some 75) rfl rfl HT_ ?_
        refine pU (i := 40) (N := some 76) rfl rfl HT_ ?_
        refine pU (i := 41) (N := some 77) rfl rfl HT_ ?_
        refine pU (i := 42) (N := some 78) rfl rfl HT_ ?_
        refine pU (i := 43) (N := some 79) rfl rfl HT_ ?_
        refine pU (i := 44) (N := some 80) rfl rfl HT_ ?_
        refine pX (i := 45) (N := some 81) rfl rfl HT_ ?_
        refine done_ (done_of HT_.out (by kernel_rfl)) ?_
        try go_wp2
        go_meet
        case rel => exact ⟨_, (true), (by first | rfl | (simp; done) | (simp [*]; done)), H', ⟨by have := HJ5.out; first | omega | exact Nat.le_refl _⟩, ⟨by (with_reducible repeat (first | apply Kd.R_alloc | apply Kd.R_drewN | apply Kd.R_drew)); exact Kd.R_mono HO106.out (fun _ hk => hk.2)⟩, ⟨by (with_reducible repeat (first | apply Kd.R_alloc | apply Kd.R_drewN | apply Kd.R_drew)); exact Kd.R_mono HO109.out (fun _ hk => hk.2)⟩, ⟨by (with_reducible repeat (first | refine blk_drewN ?_ _ | refine blk_drew ?_ | refine blk_alloc ?_ _)); exact BK101.out⟩, ⟨by (with_reducible repeat (first | refine blk_drewN ?_ _ | refine blk_drew ?_ | refine blk_alloc ?_ _)); exact BK102.out⟩, ⟨by repeat (first | (with_reducible first | exact HB.out | apply below_alloc | apply pw_below_drewN | apply below_drew1 | refine below_set ?_ GE101.out | refine below_set ?_ GE102.out) | exact HB.out)⟩⟩
      ·rw [if_neg c25] at H
       have c25b0 : (t110 == t111) = false := beq_eq_false_iff_ne.mpr c25
       have c25b1 : (t110 != t111) = true := bne_iff_ne.mpr c25
       (first | rw [c25b0] | (simp only [i64_w, i32_w]; rw [c25b0]) | skip)
       have H' := Aside0.mk H
       clear H
       try go_wp2
       have n0_ := Aside0.mk (Kd.R_drew HO106.out)
       have n1_ := Aside0.mk (Kd.R_drew HO109.out)
       have n2_ := Aside0.mk (blk_drew BK101.out)
       have n3_ := Aside0.mk (blk_drew BK102.out)
       have n4_ := Aside0.mk (below_drew1 HB.out)
       clear HO106 HO109 BK101 BK102 HB; have HO106 := n0_; have HO109 := n1_; have BK101 := n2_; have BK102 := n3_; have HB := n4_; clear n0_ n1_ n2_ n3_ n4_
       refine start_ (n := 46) (S := fun w' => True) (ds := []) #[false, false, false, false, false, false, false, false, false, false, false, false, false, false, false, false, false, false, false, false, false, false, false, false, false, false, false, false, false, false, false, false, false, false, false, false, false, false, false, false, false, false, false, false, false, false] (by kernel_rfl) rfl rfl trivial (fun hHeld => ?_); refine with_tabW parolelaw37_OddsMatchesReference.tab7 parolelaw37_OddsMatchesReference.bits7 (fun HT_ HW_ => ?_)
       generalize w22.drew = w81 at HO106 HO109 BK101 BK102 HB hHeld ⊢
       refine pX (i := 0) (N := some 36) rfl rfl HT_ ?_
       refine pX (i := 2) (N := some 38) rfl rfl HT_ ?_
       refine oX (i := 1) (N := some 37) rfl rfl HT_ (fun K hK => ?_)
       refine goes_ Try.func17 (by kernel_rfl) rfl #[.slice A0 l0.length c0] (by rfl) rfl rfl (by (try simp only [List.map_toArray, List.map_cons, List.map_nil]); first | done | rfl | (simp only [List.length_drop, List.length_take]; rfl)) ?_
       with_reducible refine (odds_Right.calls kj5 _ _ l0 t110 _ ?side1 ?side2 A23.out).mono ?_
       (case side1 => repeat (first | exact (Kd.C_below HR0.out HB.out) | (with_reducible refine Kd.C_alloc ?_ _) | (with_reducible refine Kd.C_drewN ?_ _) | (with_reducible refine Kd.C_drew ?_)))
       (case side2 => exact HC0.out)
       rintro e w82 ⟨rfl, hb⟩
       refine ⟨_, rfl, ?_⟩
       have n0_ := Aside0.mk (Kd.R_below (by (with_reducible repeat (first | apply Kd.R_alloc | apply Kd.R_drewN | apply Kd.R_drew)); exact HO106.out) hb)
       have n1_ := Aside0.mk (Kd.R_below (by (with_reducible repeat (first | apply Kd.R_alloc | apply Kd.R_drewN | apply Kd.R_drew)); exact HO109.out) hb)
       have n2_ := Aside0.mk (blk_below (g := gb101) (o := .cells #[.slice A1_0 l1_0.length c1_0, .slice A1_1 l1_1.length c1_1] 24 (0, 0)) (by (with_reducible repeat (first | refine blk_drewN ?_ _ | refine blk_drew ?_ | refine blk_alloc ?_ _)); exact BK101.out) hb)
       have n3_ := Aside0.mk (blk_below (g := gb102) (o := .cells #[.int .i64 a2_0, .int .i64 a2_1] 25 (0, 0)) (by (with_reducible repeat (first | refine blk_drewN ?_ _ | refine blk_drew ?_ | refine blk_alloc ?_ _)); exact BK102.out) hb)
       have n4_ := Aside0.mk (below_step (by repeat (first | (with_reducible first | exact HB.out | apply below_alloc | apply pw_below_drewN | apply below_drew1 | refine below_set ?_ GE101.out | refine below_set ?_ GE102.out) | exact HB.out)) hb)
       clear HO106 HO109 BK101 BK102 HB; have HO106 := n0_; have HO109 := n1_; have BK101 := n2_; have BK102 := n3_; have HB := n4_; clear n0_ n1_ n2_ n3_ n4_; (try clear hb); (try clear hb2); (try clear hk); (try clear hi)
       refine hK.out _ _ trivial (fun hHeld => ?_)
       clear hK K
       refine nX (some 37) ?_
       refine oX (i := 3) (N := some 39) rfl rfl HT_ (fun K hK => ?_)
       refine goes_ Try.func18 (by kernel_rfl) rfl #[.slice A0 l0.length c0] (by rfl) rfl rfl (by (try simp only [List.map_toArray, List.map_cons, List.map_nil]); first | done | rfl | (simp only [List.length_drop, List.length_take]; rfl)) ?_
       with_reducible refine (paroleref37_Right.calls kj5 _ _ l0 t111 _ ?side1 ?side2 A24.out).mono ?_
       (case side1 => repeat (first | exact (Kd.C_below HR0.out HB.out) | (with_reducible refine Kd.C_alloc ?_ _) | (with_reducible refine Kd.C_drewN ?_ _) | (with_reducible refine Kd.C_drew ?_)))
       (case side2 => exact HC0.out)
       rintro e w83 ⟨rfl, hb⟩
       refine ⟨_, rfl, ?_⟩
       have n0_ := Aside0.mk (Kd.R_below (by (with_reducible repeat (first | apply Kd.R_alloc | apply Kd.R_drewN | apply Kd.R_drew)); exact HO106.out) hb)
       have n1_ := Aside0.mk (Kd.R_below (by (with_reducible repeat (first | apply Kd.R_alloc | apply Kd.R_drewN | apply Kd.R_drew)); exact HO109.out) hb)
       have n2_ := Aside0.mk (blk_below (g := gb101) (o := .cells #[.slice A1_0 l1_0.length c1_0, .slice A1_1 l1_1.length c1_1] 24 (0, 0)) (by (with_reducible repeat (first | refine blk_drewN ?_ _ | refine blk_drew ?_ | refine blk_alloc ?_ _)); exact BK101.out) hb)
       have n3_ := Aside0.mk (blk_below (g := gb102) (o := .cells #[.int .i64 a2_0, .int .i64 a2_1] 25 (0, 0)) (by (with_reducible repeat (first | refine blk_drewN ?_ _ | refine blk_drew ?_ | refine blk_alloc ?_ _)); exact BK102.out) hb)
       have n4_ := Aside0.mk (below_step (by repeat (first | (with_reducible first | exact HB.out | apply below_alloc | apply pw_below_drewN | apply below_drew1 | refine below_set ?_ GE101.out | refine below_set ?_ GE102.out) | exact HB.out)) hb)
       clear HO106 HO109 BK101 BK102 HB; have HO106 := n0_; have HO109 := n1_; have BK101 := n2_; have BK102 := n3_; have HB := n4_; clear n0_ n1_ n2_ n3_ n4_; (try clear hb); (try clear hb2); (try clear hk); (try clear hi)
       refine hK.out _ _ trivial (fun hHeld => ?_)
       clear hK K
       refine nX (some 39) ?_
       refine pX (i := 4) (N := some 40) rfl rfl HT_ ?_
       refine pX (i := 5) (N := some 41) rfl rfl HT_ ?_
       refine pU (i := 6) (N := some 42) rfl rfl HT_ ?_
       refine pU (i := 7) (N := some 43) rfl rfl HT_ ?_
       refine pU (i := 8) (N := some 44) rfl rfl HT_ ?_
       refine pX (i := 9) (N := some 45) rfl rfl HT_ ?_
       refine pX (i := 10) (N := some 46) rfl rfl HT_ ?_
       refine pU (i := 11) (N := some 47) rfl rfl HT_ ?_
       refine pU (i := 12) (N := some 48) rfl rfl HT_ ?_
       refine pU (i := 13) (N := some 49) rfl rfl HT_ ?_
       refine pU (i := 14) (N := some 50) rfl rfl HT_ ?_
       refine pU (i := 15) (N := some 51) rfl rfl HT_ ?_
       refine pU (i := 16) (N := some 52) rfl rfl HT_ ?_
       refine pU (i := 17) (N := some 53) rfl rfl HT_ ?_
       refine pU (i := 18) (N := some 54) rfl rfl HT_ ?_
       refine pX (i := 19) (N := some 55) rfl rfl HT_ ?_
       refine pX (i := 20) (N := some 56) rfl rfl HT_ ?_
       refine pU (i := 21) (N := some 57) rfl rfl HT_ ?_
       refine pU (i := 22) (N := some 58) rfl rfl HT_ ?_
       refine pU (i := 23) (N := some 59) rfl rfl HT_ ?_
       refine pU (i := 24) (N := some 60) rfl rfl HT_ ?_
       refine pU (i := 25) (N := some 61) rfl rfl HT_ ?_
       refine pU (i := 26) (N := some 62) rfl rfl HT_ ?_
       refine pU (i := 27) (N := some 63) rfl rfl HT_ ?_
       refine pU (i := 28) (N := some 64) rfl rfl HT_ ?_
       refine pU (i := 29) (N := some 65) rfl rfl HT_ ?_
       refine pX (i := 30) (N := some 66) rfl rfl HT_ ?_
       refine pX (i := 31) (N := some 67) rfl rfl HT_ ?_
       refine pU (i := 32) (N := some 68) rfl rfl HT_ ?_
       refine pU (i := 33) (N := some 69) rfl rfl HT_ ?_
       refine pU (i := 34) (N := some 70) rfl rfl HT_ ?_
       refine pU (i := 35) (N := some 71) rfl rfl HT_ ?_
       refine pU (i := 36) (N := some 72) rfl rfl HT_ ?_
       refine pU (i := 37) (N := some 73) rfl rfl HT_ ?_
       refine pU (i := 38) (N := some 74) rfl rfl HT_ ?_
       refine pU (i := 39) (N := some 75) rfl rfl HT_ ?_
       refine pU (i := 40) (N := some 76) rfl rfl HT_ ?_
       refine pU (i := 41) (N := some 77) rfl rfl HT_ ?_
       refine pU (i := 42) (N := some 78) rfl rfl HT_ ?_
       refine pU (i := 43) (N := some 79) rfl rfl HT_ ?_
       refine pU (i := 44) (N := some 80) rfl rfl HT_ ?_
       refine pX (i := 45) (N := some 81) rfl rfl HT_ ?_
       refine done_ (done_of HT_.out (by kernel_rfl)) ?_
       try go_wp2
       go_meet
       case rel => exact ⟨_, (true), (by first | rfl | (simp; done) | (simp [*]; done)), H', ⟨by have := HJ5.out; first | omega | exact Nat.le_refl _⟩, ⟨by (with_reducible repeat (first | apply Kd.R_alloc | apply Kd.R_drewN | apply Kd.R_drew)); exact Kd.R_mono HO106.out (fun _ hk => hk.2)⟩, ⟨by (with_reducible repeat (first | apply Kd.R_alloc | apply Kd.R_drewN | apply Kd.R_drew)); exact Kd.R_mono HO109.out (fun _ hk => hk.2)⟩, ⟨by (with_reducible repeat (first | refine blk_drewN ?_ _ | refine blk_drew ?_ | refine blk_alloc ?_ _)); exact BK101.out⟩, ⟨by (with_reducible repeat (first | refine blk_drewN ?_ _ | refine blk_drew ?_ | refine blk_alloc ?_ _)); exact BK102.out⟩, ⟨by repeat (first | (with_reducible first | exact HB.out | apply below_alloc | apply pw_below_drewN | apply below_drew1 | refine below_set ?_ GE101.out | refine below_set ?_ GE102.out) | exact HB.out)⟩⟩
     case rest =>
      clear HC19
      try clear c1
      try clear c2
      try clear p2
      try clear c17
      try clear c18
      try clear c25
      try clear c25b0
      try clear c25b1
      obtain ⟨kq, x81_18, rfl, HA, HJ18, HO_8, HO_9, BK101, BK102, HB⟩ := hcut
      cases kq with
      | zero => exact absurd HA.out (by simp [parolelaw37_OddsMatchesReference.j1])
      | succ kj18 =>
       have H := HA.out
       clear HA
       simp only [parolelaw37_OddsMatchesReference.j1] at H
       by_cases c84 : x81_18 = true
       ·subst c84
        have H1 : (some false) = some r := by rw [if_pos rfl] at H; exact H
        clear H
        have H := H1
        clear H1
        exact absurd ((Option.some.inj H).trans HT.out) (by decide)
       ·replace c84 := Bool.eq_false_iff.mpr c84
        subst c84
        have H1 : (parolelaw37_OddsMatchesReference.l0 kj18 true t104 t107 0 a2_0 a2_1) = some r := by rw [if_neg (show ¬ (false = true) by decide)] at H; exact H
        clear H
        have H := H1
        clear H1
        have H' := Aside0.mk H
        clear H
        go_wp2
        go_loopg [10] kj18 (fun kq v10 w' => ∃ (x10_3 : Int), v10 = .int .i64 x10_3 ∧ Aside0 (parolelaw37_OddsMatchesReference.l0 kq true t104 t107 x10_3 a2_0 a2_1 = some r) ∧ Aside0 (kq ≤ kj18) ∧ Aside0 (Kd.R k71 71 w' w.heap.size (fun k_ => some k_ ≠ (v108 : Value).ownBlock) v105 t104) ∧ Aside0 (Kd.R k71 71 w' w.heap.size (fun k_ => some k_ ≠ (v105 : Value).ownBlock) v108 t107) ∧ Aside0 (w'.heap[gb101]? = some (.cells #[(.slice A1_0 l1_0.length c1_0), (.slice A1_1 l1_1.length c1_1)] 24 (0, 0))) ∧ Aside0 (w'.heap[gb102]? = some (.cells #[.int .i64 a2_0, .int .i64 a2_1] 25 (0, 0))) ∧ Aside0 (Below w.heap.size w w'))
        case atStart => exact ⟨(0), (by first | rfl | (simp; done) | (simp [*]; done)), H', ⟨Nat.le_refl _⟩, ⟨by (with_reducible repeat (first | apply Kd.R_alloc | apply Kd.R_drewN | apply Kd.R_drew)); exact HO_8.out⟩, ⟨by (with_reducible repeat (first | apply Kd.R_alloc | apply Kd.R_drewN | apply Kd.R_drew)); exact HO_9.out⟩, ⟨by (with_reducible repeat (first | refine blk_drewN ?_ _ | refine blk_drew ?_ | refine blk_alloc ?_ _)); exact BK101.out⟩, ⟨by (with_reducible repeat (first | refine blk_drewN ?_ _ | refine blk_drew ?_ | refine blk_alloc ?_ _)); exact BK102.out⟩, ⟨by repeat (first | (with_reducible first | exact HB.out | apply below_alloc | apply pw_below_drewN | apply below_drew1 | refine below_set ?_ GE101.out | refine below_set ?_ GE102.out) | exact HB.out)⟩⟩
        case round =>
         clear H'
         try clear c1
         try clear c2
         try clear p2
         try clear c8
         try clear c17
         try clear c18
         try clear c25
         try clear c25b0
         try clear c25b1
         try clear c84
         try clear p2
         obtain ⟨x10_3, rfl, HA, HK3, HO_8, HO_9, BK101, BK102, HB⟩ := hrel
         cases gk with
         | zero => exact absurd HA.out (by simp [parolelaw37_OddsMatchesReference.l0])
         | succ k3 =>
          have H := HA.out
          clear HA
          simp only [parolelaw37_OddsMatchesReference.l0] at H
          by_cases c85 : x10_3 < 16
          ·rw [if_pos c85] at H
           have c85b0 : decide (x10_3 < 16) = true := decide_eq_true c85
           clear c85
           replace H := Option.bind_eq_some_iff.mp H
           obtain ⟨⟨t141, t144⟩, A860, H⟩ := H
           replace H : ((paroleref37_Learn.f k3 t104 x10_3 true).bind fun bt145 => ((parolelaw37_same.f k3 t141 t144 bt145.1 bt145.2).bind fun t149 => (if t149 = true then ((parolelaw37_learned.f k3 t104 x10_3 false).bind fun bt150 => ((paroleref37_Learn.f k3 t104 x10_3 false).bind fun bt154 => ((parolelaw37_same.f k3 bt150.1 bt150.2 bt154.1 bt154.2).bind fun t158 => (if t158 = true then ((odds_Of.f k3 t104 x10_3).bind fun bt159 => ((paroleref37_Of.f k3 t104 x10_3).bind fun bt161 => (if (!(bt159.1 == bt161.1) || (!(bt159.2 == bt161.2))) = true then (some false) else ((parolelaw37_loss.f k3 t107 x10_3 a2_1).bind fun bt163 => ((paroleref37_Loss.f k3 t107 x10_3 a2_1).bind fun bt166 => (if ((!(bt163.1 == bt166.1) || (!(bt163.2.1 == bt166.2.1))) || (!(bt163.2.2 == bt166.2.2))) = true then (some false) else (parolelaw37_OddsMatchesReference.l0 k3 true t104 t107 (wrap64 (x10_3 + 1)) a2_0 a2_1))))))) else (some false))))) else (some false)))) = some r := H
           have A86 := Aside0.mk A860
           clear A860
           replace H := Option.bind_eq_some_iff.mp H
           obtain ⟨⟨t145, t148⟩, A870, H⟩ := H
           replace H : ((parolelaw37_same.f k3 t141 t144 t145 t148).bind fun t149 => (if t149 = true then ((parolelaw37_learned.f k3 t104 x10_3 false).bind fun bt150 => ((paroleref37_Learn.f k3 t104 x10_3 false).bind fun bt154 => ((parolelaw37_same.f k3 bt150.1 bt150.2 bt154.1 bt154.2).bind fun t158 => (if t158 = true then ((odds_Of.f k3 t104 x10_3).bind fun bt159 => ((paroleref37_Of.f k3 t104 x10_3).bind fun bt161 => (if (!(bt159.1 == bt161.1) || (!(bt159.2 == bt161.2))) = true then (some false) else ((parolelaw37_loss.f k3 t107 x10_3 a2_1).bind fun bt163 => ((paroleref37_Loss.f k3 t107 x10_3 a2_1).bind fun bt166 => (if ((!(bt163.1 == bt166.1) || (!(bt163.2.1 == bt166.2.1))) || (!(bt163.2.2 == bt166.2.2))) = true then (some false) else (parolelaw37_OddsMatchesReference.l0 k3 true t104 t107 (wrap64 (x10_3 + 1)) a2_0 a2_1))))))) else (some false))))) else (some false))) = some r := H
           have A87 := Aside0.mk A870
           clear A870
           replace H := Option.bind_eq_some_iff.mp H
           obtain ⟨t149, A880, H⟩ := H
           replace H : (if t149 = true then ((parolelaw37_learned.f k3 t104 x10_3 false).bind fun bt150 => ((paroleref37_Learn.f k3 t104 x10_3 false).bind fun bt154 => ((parolelaw37_same.f k3 bt150.1 bt150.2 bt154.1 bt154.2).bind fun t158 => (if t158 = true then ((odds_Of.f k3 t104 x10_3).bind fun bt159 => ((paroleref37_Of.f k3 t104 x10_3).bind fun bt161 => (if (!(bt159.1 == bt161.1) || (!(bt159.2 == bt161.2))) = true then (some false) else ((parolelaw37_loss.f k3 t107 x10_3 a2_1).bind fun bt163 => ((paroleref37_Loss.f k3 t107 x10_3 a2_1).bind fun bt166 => (if ((!(bt163.1 == bt166.1) || (!(bt163.2.1 == bt166.2.1))) || (!(bt163.2.2 == bt166.2.2))) = true then (some false) else (parolelaw37_OddsMatchesReference.l0 k3 true t104 t107 (wrap64 (x10_3 + 1)) a2_0 a2_1))))))) else (some false))))) else (some false)) = some r := H
           have A88 := Aside0.mk A880
           clear A880
           by_cases c89 : t149 = true
           ·subst c89
            have H1 : ((parolelaw37_learned.f k3 t104 x10_3 false).bind fun bt150 => ((paroleref37_Learn.f k3 t104 x10_3 false).bind fun bt154 => ((parolelaw37_same.f k3 bt150.1 bt150.2 bt154.1 bt154.2).bind fun t158 => (if t158 = true then ((odds_Of.f k3 t104 x10_3).bind fun bt159 => ((paroleref37_Of.f k3 t104 x10_3).bind fun bt161 => (if (!(bt159.1 == bt161.1) || (!(bt159.2 == bt161.2))) = true then (some false) else ((parolelaw37_loss.f k3 t107 x10_3 a2_1).bind fun bt163 => ((paroleref37_Loss.f k3 t107 x10_3 a2_1).bind fun bt166 => (if ((!(bt163.1 == bt166.1) || (!(bt163.2.1 == bt166.2.1))) || (!(bt163.2.2 == bt166.2.2))) = true then (some false) else (parolelaw37_OddsMatchesReference.l0 k3 true t104 t107 (wrap64 (x10_3 + 1)) a2_0 a2_1))))))) else (some false))))) = some r := by rw [if_pos rfl] at H; exact H
            clear H
            have H := H1
            clear H1
            replace H := Option.bind_eq_some_iff.mp H
            obtain ⟨⟨t150, t153⟩, A900, H⟩ := H
            replace H : ((paroleref37_Learn.f k3 t104 x10_3 false).bind fun bt154 => ((parolelaw37_same.f k3 t150 t153 bt154.1 bt154.2).bind fun t158 => (if t158 = true then ((odds_Of.f k3 t104 x10_3).bind fun bt159 => ((paroleref37_Of.f k3 t104 x10_3).bind fun bt161 => (if (!(bt159.1 == bt161.1) || (!(bt159.2 == bt161.2))) = true then (some false) else ((parolelaw37_loss.f k3 t107 x10_3 a2_1).bind fun bt163 => ((paroleref37_Loss.f k3 t107 x10_3 a2_1).bind fun bt166 => (if ((!(bt163.1 == bt166.1) || (!(bt163.2.1 == bt166.2.1))) || (!(bt163.2.2 == bt166.2.2))) = true then (some false) else (parolelaw37_OddsMatchesReference.l0 k3 true t104 t107 (wrap64 (x10_3 + 1)) a2_0 a2_1))))))) else (some false)))) = some r := H
            have A90 := Aside0.mk A900
            clear A900
            replace H := Option.bind_eq_some_iff.mp H
            obtain ⟨⟨t154, t157⟩, A910, H⟩ := H
            replace H : ((parolelaw37_same.f k3 t150 t153 t154 t157).bind fun t158 => (if t158 = true then ((odds_Of.f k3 t104 x10_3).bind fun bt159 => ((paroleref37_Of.f k3 t104 x10_3).bind fun bt161 => (if (!(bt159.1 == bt161.1) || (!(bt159.2 == bt161.2))) = true then (some false) else ((parolelaw37_loss.f k3 t107 x10_3 a2_1).bind fun bt163 => ((paroleref37_Loss.f k3 t107 x10_3 a2_1).bind fun bt166 => (if ((!(bt163.1 == bt166.1) || (!(bt163.2.1 == bt166.2.1))) || (!(bt163.2.2 == bt166.2.2))) = true then (some false) else (parolelaw37_OddsMatchesReference.l0 k3 true t104 t107 (wrap64 (x10_3 + 1)) a2_0 a2_1))))))) else (some false))) = some r := H
            have A91 := Aside0.mk A910
            clear A910
            replace H := Option.bind_eq_some_iff.mp H
            obtain ⟨t158, A920, H⟩ := H
            replace H : (if t158 = true then ((odds_Of.f k3 t104 x10_3).bind fun bt159 => ((paroleref37_Of.f k3 t104 x10_3).bind fun bt161 => (if (!(bt159.1 == bt161.1) || (!(bt159.2 == bt161.2))) = true then (some false) else ((parolelaw37_loss.f k3 t107 x10_3 a2_1).bind fun bt163 => ((paroleref37_Loss.f k3 t107 x10_3 a2_1).bind fun bt166 => (if ((!(bt163.1 == bt166.1) || (!(bt163.2.1 == bt166.2.1))) || (!(bt163.2.2 == bt166.2.2))) = true then (some false) else (parolelaw37_OddsMatchesReference.l0 k3 true t104 t107 (wrap64 (x10_3 + 1)) a2_0 a2_1))))))) else (some false)) = some r := H
            have A92 := Aside0.mk A920
            clear A920
            by_cases c93 : t158 = true
            ·subst c93
             have H1 : ((odds_Of.f k3 t104 x10_3).bind fun bt159 => ((paroleref37_Of.f k3 t104 x10_3).bind fun bt161 => (if (!(bt159.1 == bt161.1) || (!(bt159.2 == bt161.2))) = true then (some false) else ((parolelaw37_loss.f k3 t107 x10_3 a2_1).bind fun bt163 => ((paroleref37_Loss.f k3 t107 x10_3 a2_1).bind fun bt166 => (if ((!(bt163.1 == bt166.1) || (!(bt163.2.1 == bt166.2.1))) || (!(bt163.2.2 == bt166.2.2))) = true then (some false) else (parolelaw37_OddsMatchesReference.l0 k3 true t104 t107 (wrap64 (x10_3 + 1)) a2_0 a2_1))))))) = some r := by rw [if_pos rfl] at H; exact H
             clear H
             have H := H1
             clear H1
             replace H := Option.bind_eq_some_iff.mp H
             obtain ⟨⟨t159, t160⟩, A940, H⟩ := H
             replace H : ((paroleref37_Of.f k3 t104 x10_3).bind fun bt161 => (if (!(t159 == bt161.1) || (!(t160 == bt161.2))) = true then (some false) else ((parolelaw37_loss.f k3 t107 x10_3 a2_1).bind fun bt163 => ((paroleref37_Loss.f k3 t107 x10_3 a2_1).bind fun bt166 => (if ((!(bt163.1 == bt166.1) || (!(bt163.2.1 == bt166.2.1))) || (!(bt163.2.2 == bt166.2.2))) = true then (some false) else (parolelaw37_OddsMatchesReference.l0 k3 true t104 t107 (wrap64 (x10_3 + 1)) a2_0 a2_1)))))) = some r := H
             have A94 := Aside0.mk A940
             clear A940
             replace H := Option.bind_eq_some_iff.mp H
             obtain ⟨⟨t161, t162⟩, A950, H⟩ := H
             replace H : (if (!(t159 == t161) || (!(t160 == t162))) = true then (some false) else ((parolelaw37_loss.f k3 t107 x10_3 a2_1).bind fun bt163 => ((paroleref37_Loss.f k3 t107 x10_3 a2_1).bind fun bt166 => (if ((!(bt163.1 == bt166.1) || (!(bt163.2.1 == bt166.2.1))) || (!(bt163.2.2 == bt166.2.2))) = true then (some false) else (parolelaw37_OddsMatchesReference.l0 k3 true t104 t107 (wrap64 (x10_3 + 1)) a2_0 a2_1))))) = some r := H
             have A95 := Aside0.mk A950
             clear A950
             by_cases c96 : (!(t159 == t161) || (!(t160 == t162))) = true
             ·rw [if_pos c96] at H
              have c96b0 : (!(t159 == t161) || (!(t160 == t162))) = true := c96
              clear c96
              exact absurd ((Option.some.inj H).trans HT.out) (by decide)
             ·rw [if_neg c96] at H
              have c96b0 : (!(t159 == t161) || (!(t160 == t162))) = false := by simpa using c96
              clear c96
              replace H := Option.bind_eq_some_iff.mp H
              obtain ⟨⟨t163, t164, t165⟩, A970, H⟩ := H
              replace H : ((paroleref37_Loss.f k3 t107 x10_3 a2_1).bind fun bt166 => (if ((!(t163 == bt166.1) || (!(t164 == bt166.2.1))) || (!(t165 == bt166.2.2))) = true then (some false) else (parolelaw37_OddsMatchesReference.l0 k3 true t104 t107 (wrap64 (x10_3 + 1)) a2_0 a2_1))) = some r := H
              have A97 := Aside0.mk A970
              clear A970
              replace H := Option.bind_eq_some_iff.mp H
              obtain ⟨⟨t166, t167, t168⟩, A980, H⟩ := H
              replace H : (if ((!(t163 == t166) || (!(t164 == t167))) || (!(t165 == t168))) = true then (some false) else (parolelaw37_OddsMatchesReference.l0 k3 true t104 t107 (wrap64 (x10_3 + 1)) a2_0 a2_1)) = some r := H
              have A98 := Aside0.mk A980
              clear A980
              by_cases c99 : ((!(t163 == t166) || (!(t164 == t167))) || (!(t165 == t168))) = true
              ·rw [if_pos c99] at H
               have c99b0 : ((!(t163 == t166) || (!(t164 == t167))) || (!(t165 == t168))) = true := c99
               clear c99
               exact absurd ((Option.some.inj H).trans HT.out) (by decide)
              ·rw [if_neg c99] at H
               have c99b0 : ((!(t163 == t166) || (!(t164 == t167))) || (!(t165 == t168))) = false := by simpa using c99
               clear c99
               have H' := Aside0.mk H
               clear H
               try go_wp2
               have n0_ := Aside0.mk (Kd.R_drew HO_8.out)
               have n1_ := Aside0.mk (Kd.R_drew HO_9.out)
               have n2_ := Aside0.mk (blk_drew BK101.out)
               have n3_ := Aside0.mk (blk_drew BK102.out)
               have n4_ := Aside0.mk (below_drew1 HB.out)
               clear HO_8 HO_9 BK101 BK102 HB; have HO_8 := n0_; have HO_9 := n1_; have BK101 := n2_; have BK102 := n3_; have HB := n4_; clear n0_ n1_ n2_ n3_ n4_
               obtain ⟨Ao101, co101, eo101⟩ := Kd.R_slice HO_8.out
               (first | subst eo101 | (injection eo101 with f1_ f2_ f3_; have f4_ := f1_.symm; have f5_ := f3_.symm; clear f1_ f2_ f3_; subst f4_; subst f5_))
               refine start_ (n := 40) (S := fun w' => w'.cell? ⟨gb102, 0, none⟩ = some (.int .i64 a2_0) ∧ w'.cell? ⟨gb102, 1, none⟩ = some (.int .i64 a2_1)) (ds := []) #[false, false, false, false, false, false, false, false, false, false, false, false, false, false, false, false, false, false, false, false, false, false, false, false, false, false, false, false, false, false, false, false, false, false, false, false, false, false, false, false] (by kernel_rfl) rfl rfl ⟨(blk_cell BK102.out 0).trans rfl, (blk_cell BK102.out 1).trans rfl⟩ (fun hHeld => ?_); refine with_tabW parolelaw37_OddsMatchesReference.tab12 parolelaw37_OddsMatchesReference.bits12 (fun HT_ HW_ => ?_)
               generalize wr.drew = w100 at HO_8 HO_9 BK101 BK102 HB hHeld ⊢
               refine pX (i := 0) (N := some 86) rfl rfl HT_ ?_
               refine pX (i := 1) (N := some 87) rfl rfl HT_ ?_
               refine pX (i := 3) (N := some 89) rfl rfl HT_ ?_
               refine pX (i := 4) (N := some 90) rfl rfl HT_ ?_
               refine oX (i := 2) (N := some 88) rfl rfl HT_ (fun K hK => ?_)
               refine goes_ Try.func26 (by kernel_rfl) rfl #[.slice Ao101 t104.length co101, .int .i64 x10_3, .bool true] (by rfl) rfl rfl (by (try simp only [List.map_toArray, List.map_cons, List.map_nil]); first | done | rfl | (simp only [List.length_drop, List.length_take]; rfl)) ?_
               with_reducible refine (parolelaw37_learned.calls k3 _ _ t104 x10_3 true t141 t144 _ ?side1 ?side2 A86.out).mono ?_
               (case side1 => repeat (first | exact (Kd.R_reads' HO_8.out).2.2 | (with_reducible refine Kd.C_alloc ?_ _) | (with_reducible refine Kd.C_drewN ?_ _) | (with_reducible refine Kd.C_drew ?_)))
               (case side2 => exact (Kd.R_reads' HO_8.out).2.1)
               rintro e w102 ⟨v142, rfl, ho0, hb⟩
               refine ⟨_, rfl, ?_⟩
               have n0_ := Aside0.mk (Kd.R_elder' (by (with_reducible repeat (first | apply Kd.R_alloc | apply Kd.R_drewN | apply Kd.R_drew)); exact HO_8.out) (Kd.R_base ho0) hb)
               have n1_ := Aside0.mk (Kd.R_elder' (by (with_reducible repeat (first | apply Kd.R_alloc | apply Kd.R_drewN | apply Kd.R_drew)); exact HO_9.out) (Kd.R_base ho0) hb)
               have n2_ := Aside0.mk (Kd.R_lower (Kd.R_new' (Kd.R_new' ho0 (Kd.R_lt (by (with_reducible repeat (first | apply Kd.R_alloc | apply Kd.R_drewN | apply Kd.R_drew)); exact HO_8.out))) (Kd.R_lt (by (with_reducible repeat (first | apply Kd.R_alloc | apply Kd.R_drewN | apply Kd.R_drew)); exact HO_9.out))) (below_size (by repeat (first | (with_reducible first | exact HB.out | apply below_alloc | apply pw_below_drewN | apply below_drew1 | refine below_set ?_ GE101.out | refine below_set ?_ GE102.out) | exact HB.out))))
               have n3_ := Aside0.mk (blk_below (g := gb101) (o := .cells #[.slice A1_0 l1_0.length c1_0, .slice A1_1 l1_1.length c1_1] 24 (0, 0)) (by (with_reducible repeat (first | refine blk_drewN ?_ _ | refine blk_drew ?_ | refine blk_alloc ?_ _)); exact BK101.out) hb)
               have n4_ := Aside0.mk (blk_below (g := gb102) (o := .cells #[.int .i64 a2_0, .int .i64 a2_1] 25 (0, 0)) (by (with_reducible repeat (first | refine blk_drewN ?_ _ | refine blk_drew ?_ | refine blk_alloc ?_ _)); exact BK102.out) hb)
               have n5_ := Aside0.mk (below_step (by repeat (first | (with_reducible first | exact HB.out | apply below_alloc | apply pw_below_drewN | apply below_drew1 | refine below_set ?_ GE101.out | refine below_set ?_ GE102.out) | exact HB.out)) hb)
               clear HO_8 HO_9 BK101 BK102 HB; have HO_8 := n0_; have HO_9 := n1_; have HO143 := n2_; have BK101 := n3_; have BK102 := n4_; have HB := n5_; clear n0_ n1_ n2_ n3_ n4_ n5_; (try clear hb); (try clear hb2); (try clear hk); (try clear hi); (try clear ho0)
               refine hK.out _ _ ⟨(blk_cell BK102.out 0).trans rfl, (blk_cell BK102.out 1).trans rfl⟩ (fun hHeld => ?_)
               clear hK K
               refine nX (some 88) ?_
               refine oX (i := 5) (N := some 91) rfl rfl HT_ (fun K hK => ?_)
               refine goes_ Try.func27 (by kernel_rfl) rfl #[.slice Ao101 t104.length co101, .int .i64 x10_3, .bool true] (by rfl) rfl rfl (by (try simp only [List.map_toArray, List.map_cons, List.map_nil]); first | done | rfl | (simp only [List.length_drop, List.length_take]; rfl)) ?_
               with_reducible refine (paroleref37_Learn.calls k3 _ _ t104 x10_3 true t145 t148 _ ?side1 ?side2 A87.out).mono ?_
               (case side1 => repeat (first | exact (Kd.R_reads' HO_8.out).2.2 | (with_reducible refine Kd.C_alloc ?_ _) | (with_reducible refine Kd.C_drewN ?_ _) | (with_reducible refine Kd.C_drew ?_)))
               (case side2 => exact (Kd.R_reads' HO_8.out).2.1)
               rintro e w103 ⟨v146, rfl, ho0, hb⟩
               refine ⟨_, rfl, ?_⟩
               have n0_ := Aside0.mk (Kd.R_elder' (by (with_reducible repeat (first | apply Kd.R_alloc | apply Kd.R_drewN | apply Kd.R_drew)); exact HO_8.out) (Kd.R_base ho0) hb)
               have n1_ := Aside0.mk (Kd.R_elder' (by (with_reducible repeat (first | apply Kd.R_alloc | apply Kd.R_drewN | apply Kd.R_drew)); exact HO_9.out) (Kd.R_base ho0) hb)
               have n2_ := Aside0.mk (Kd.R_elder' (by (with_reducible repeat (first | apply Kd.R_alloc | apply Kd.R_drewN | apply Kd.R_drew)); exact HO143.out) (Kd.R_base ho0) hb)
               have n3_ := Aside0.mk (Kd.R_lower (Kd.R_new' (Kd.R_new' (Kd.R_new' ho0 (Kd.R_lt (by (with_reducible repeat (first | apply Kd.R_alloc | apply Kd.R_drewN | apply Kd.R_drew)); exact HO_8.out))) (Kd.R_lt (by (with_reducible repeat (first | apply Kd.R_alloc | apply Kd.R_drewN | apply Kd.R_drew)); exact HO_9.out))) (Kd.R_lt (by (with_reducible repeat (first | apply Kd.R_alloc | apply Kd.R_drewN | apply Kd.R_drew)); exact HO143.out))) (below_size (by repeat (first | (with_reducible first | exact HB.out | apply below_alloc | apply pw_below_drewN | apply below_drew1 | refine below_set ?_ GE101.out | refine below_set ?_ GE102.out) | exact HB.out))))
               have n4_ := Aside0.mk (blk_below (g := gb101) (o := .cells #[.slice A1_0 l1_0.length c1_0, .slice A1_1 l1_1.length c1_1] 24 (0, 0)) (by (with_reducible repeat (first | refine blk_drewN ?_ _ | refine blk_drew ?_ | refine blk_alloc ?_ _)); exact BK101.out) hb)
               have n5_ := Aside0.mk (blk_below (g := gb102) (o := .cells #[.int .i64 a2_0, .int .i64 a2_1] 25 (0, 0)) (by (with_reducible repeat (first | refine blk_drewN ?_ _ | refine blk_drew ?_ | refine blk_alloc ?_ _)); exact BK102.out) hb)
               have n6_ := Aside0.mk (below_step (by repeat (first | (with_reducible first | exact HB.out | apply below_alloc | apply pw_below_drewN | apply below_drew1 | refine below_set ?_ GE101.out | refine below_set ?_ GE102.out) | exact HB.out)) hb)
               clear HO_8 HO_9 HO143 BK101 BK102 HB; have HO_8 := n0_; have HO_9 := n1_; have HO143 := n2_; have HO147 := n3_; have BK101 := n4_; have BK102 := n5_; have HB := n6_; clear n0_ n1_ n2_ n3_ n4_ n5_ n6_; (try clear hb); (try clear hb2); (try clear hk); (try clear hi); (try clear ho0)
               obtain ⟨Ao104, co104, eo104⟩ := Kd.R_slice HO143.out
               (first | subst eo104 | (injection eo104 with f1_ f2_ f3_; have f4_ := f1_.symm; have f5_ := f3_.symm; clear f1_ f2_ f3_; subst f4_; subst f5_))
               obtain ⟨Ao105, co105, eo105⟩ := Kd.R_slice HO147.out
               (first | subst eo105 | (injection eo105 with f1_ f2_ f3_; have f4_ := f1_.symm; have f5_ := f3_.symm; clear f1_ f2_ f3_; subst f4_; subst f5_))
               refine hK.out _ _ ⟨(blk_cell BK102.out 0).trans rfl, (blk_cell BK102.out 1).trans rfl⟩ (fun hHeld => ?_)
               clear hK K
               refine nX (some 91) ?_
               refine oX (i := 6) (N := some 92) rfl rfl HT_ (fun K hK => ?_)
               refine goes_ Try.func19 (by kernel_rfl) rfl #[.agg #[.slice Ao104 t141.length co104, .int .i64 t144], .agg #[.slice Ao105 t145.length co105, .int .i64 t148]] (by rfl) rfl rfl (by (try simp only [List.map_toArray, List.map_cons, List.map_nil]); first | done | rfl | (simp only [List.length_drop, List.length_take]; rfl)) ?_
               with_reducible refine (parolelaw37_same.calls k3 _ _ t141 t144 _ _ t145 t148 true _ ?side1 ?side2 ?side3 ?side4 A88.out).mono ?_
               (case side1 => repeat (first | exact (Kd.R_reads' HO143.out).2.2 | (with_reducible refine Kd.C_alloc ?_ _) | (with_reducible refine Kd.C_drewN ?_ _) | (with_reducible refine Kd.C_drew ?_)))
               (case side2 => exact (Kd.R_reads' HO143.out).2.1)
               (case side3 => repeat (first | exact (Kd.R_reads' HO147.out).2.2 | (with_reducible refine Kd.C_alloc ?_ _) | (with_reducible refine Kd.C_drewN ?_ _) | (with_reducible refine Kd.C_drew ?_)))
               (case side4 => exact (Kd.R_reads' HO147.out).2.1)
               rintro e w106 ⟨rfl, hb⟩
               refine ⟨_, rfl, ?_⟩
               have n0_ := Aside0.mk (Kd.R_below (by (with_reducible repeat (first | apply Kd.R_alloc | apply Kd.R_drewN | apply Kd.R_drew)); exact HO_8.out) hb)
               have n1_ := Aside0.mk (Kd.R_below (by (with_reducible repeat (first | apply Kd.R_alloc | apply Kd.R_drewN | apply Kd.R_drew)); exact HO_9.out) hb)
               have n2_ := Aside0.mk (Kd.R_below (by (with_reducible repeat (first | apply Kd.R_alloc | apply Kd.R_drewN | apply Kd.R_drew)); exact HO143.out) hb)
               have n3_ := Aside0.mk (Kd.R_below (by (with_reducible repeat (first | apply Kd.R_alloc | apply Kd.R_drewN | apply Kd.R_drew)); exact HO147.out) hb)
               have n4_ := Aside0.mk (blk_below (g := gb101) (o := .cells #[.slice A1_0 l1_0.length c1_0, .slice A1_1 l1_1.length c1_1] 24 (0, 0)) (by (with_reducible repeat (first | refine blk_drewN ?_ _ | refine blk_drew ?_ | refine blk_alloc ?_ _)); exact BK101.out) hb)
               have n5_ := Aside0.mk (blk_below (g := gb102) (o := .cells #[.int .i64 a2_0, .int .i64 a2_1] 25 (0, 0)) (by (with_reducible repeat (first | refine blk_drewN ?_ _ | refine blk_drew ?_ | refine blk_alloc ?_ _)); exact BK102.out) hb)
               have n6_ := Aside0.mk (below_step (by repeat (first | (with_reducible first | exact HB.out | apply below_alloc | apply pw_below_drewN | apply below_drew1 | refine below_set ?_ GE101.out | refine below_set ?_ GE102.out) | exact HB.out)) hb)
               clear HO_8 HO_9 HO143 HO147 BK101 BK102 HB; have HO_8 := n0_; have HO_9 := n1_; have HO143 := n2_; have HO147 := n3_; have BK101 := n4_; have BK102 := n5_; have HB := n6_; clear n0_ n1_ n2_ n3_ n4_ n5_ n6_; (try clear hb); (try clear hb2); (try clear hk); (try clear hi)
               refine hK.out _ _ ⟨(blk_cell BK102.out 0).trans rfl, (blk_cell BK102.out 1).trans rfl⟩ (fun hHeld => ?_)
               clear hK K
               refine nX (some 92) ?_
               refine pX (i := 7) (N := some 93) rfl rfl HT_ ?_
               refine pX (i := 8) (N := some 94) rfl rfl HT_ ?_
               refine pX (i := 9) (N := some 95) rfl rfl HT_ ?_
               refine pX (i := 10) (N := some 96) rfl rfl HT_ ?_
               refine pX (i := 12) (N := some 98) rfl rfl HT_ ?_
               refine pX (i := 13) (N := some 99) rfl rfl HT_ ?_
               refine oX (i := 11) (N := some 97) rfl rfl HT_ (fun K hK => ?_)
               refine goes_ Try.func26 (by kernel_rfl) rfl #[.slice Ao101 t104.length co101, .int .i64 x10_3, .bool false] (by rfl) rfl rfl (by (try simp only [List.map_toArray, List.map_cons, List.map_nil]); first | done | rfl | (simp only [List.length_drop, List.length_take]; rfl)) ?_
               with_reducible refine (parolelaw37_learned.calls k3 _ _ t104 x10_3 false t150 t153 _ ?side1 ?side2 A90.out).mono ?_
               (case side1 => repeat (first | exact (Kd.R_reads' HO_8.out).2.2 | (with_reducible refine Kd.C_alloc ?_ _) | (with_reducible refine Kd.C_drewN ?_ _) | (with_reducible refine Kd.C_drew ?_)))
               (case side2 => exact (Kd.R_reads' HO_8.out).2.1)
               rintro e w107 ⟨v151, rfl, ho0, hb⟩
               refine ⟨_, rfl, ?_⟩
               have n0_ := Aside0.mk (Kd.R_elder' (by (with_reducible repeat (first | apply Kd.R_alloc | apply Kd.R_drewN | apply Kd.R_drew)); exact HO_8.out) (Kd.R_base ho0) hb)
               have n1_ := Aside0.mk (Kd.R_elder' (by (with_reducible repeat (first | apply Kd.R_alloc | apply Kd.R_drewN | apply Kd.R_drew)); exact HO_9.out) (Kd.R_base ho0) hb)
               have n2_ := Aside0.mk (Kd.R_elder' (by (with_reducible repeat (first | apply Kd.R_alloc | apply Kd.R_drewN | apply Kd.R_drew)); exact HO143.out) (Kd.R_base ho0) hb)
               have n3_ := Aside0.mk (Kd.R_elder' (by (with_reducible repeat (first | apply Kd.R_alloc | apply Kd.R_drewN | apply Kd.R_drew)); exact HO147.out) (Kd.R_base ho0) hb)
               have n4_ := Aside0.mk (Kd.R_lower (Kd.R_new' (Kd.R_new' (Kd.R_new' (Kd.R_new' ho0 (Kd.R_lt (by (with_reducible repeat (first | apply Kd.R_alloc | apply Kd.R_drewN | apply Kd.R_drew)); exact HO_8.out))) (Kd.R_lt (by (with_reducible repeat (first | apply Kd.R_alloc | apply Kd.R_drewN | apply Kd.R_drew)); exact HO_9.out))) (Kd.R_lt (by (with_reducible repeat (first | apply Kd.R_alloc | apply Kd.R_drewN | apply Kd.R_drew)); exact HO143.out))) (Kd.R_lt (by (with_reducible repeat (first | apply Kd.R_alloc | apply Kd.R_drewN | apply Kd.R_drew)); exact HO147.out))) (below_size (by repeat (first | (with_reducible first | exact HB.out | apply below_alloc | apply pw_below_drewN | apply below_drew1 | refine below_set ?_ GE101.out | refine below_set ?_ GE102.out) | exact HB.out))))
               have n5_ := Aside0.mk (blk_below (g := gb101) (o := .cells #[.slice A1_0 l1_0.length c1_0, .slice A1_1 l1_1.length c1_1] 24 (0, 0)) (by (with_reducible repeat (first | refine blk_drewN ?_ _ | refine blk_drew ?_ | refine blk_alloc ?_ _)); exact BK101.out) hb)
               have n6_ := Aside0.mk (blk_below (g := gb102) (o := .cells #[.int .i64 a2_0, .int .i64 a2_1] 25 (0, 0)) (by (with_reducible repeat (first | refine blk_drewN ?_ _ | refine blk_drew ?_ | refine blk_alloc ?_ _)); exact BK102.out) hb)
               have n7_ := Aside0.mk (below_step (by repeat (first | (with_reducible first | exact HB.out | apply below_alloc | apply pw_below_drewN | apply below_drew1 | refine below_set ?_ GE101.out | refine below_set ?_ GE102.out) | exact HB.out)) hb)
               clear HO_8 HO_9 HO143 HO147 BK101 BK102 HB; have HO_8 := n0_; have HO_9 := n1_; have HO143 := n2_; have HO147 := n3_; have HO152 := n4_; have BK101 := n5_; have BK102 := n6_; have HB := n7_; clear n0_ n1_ n2_ n3_ n4_ n5_ n6_ n7_; (try clear hb); (try clear hb2); (try clear hk); (try clear hi); (try clear ho0)
               refine hK.out _ _ ⟨(blk_cell BK102.out 0).trans rfl, (blk_cell BK102.out 1).trans rfl⟩ (fun hHeld => ?_)
               clear hK K
               refine nX (some 97) ?_
               refine oX (i := 14) (N := some 100) rfl rfl HT_ (fun K hK => ?_)
               refine goes_ Try.func27 (by kernel_rfl) rfl #[.slice Ao101 t104.length co101, .int .i64 x10_3, .bool false] (by rfl) rfl rfl (by (try simp only [List.map_toArray, List.map_cons, List.map_nil]); first | done | rfl | (simp only [List.length_drop, List.length_take]; rfl)) ?_
               with_reducible refine (paroleref37_Learn.calls k3 _ _ t104 x10_3 false t154 t157 _ ?side1 ?side2 A91.out).mono ?_
               (case side1 => repeat (first | exact (Kd.R_reads' HO_8.out).2.2 | (with_reducible refine Kd.C_alloc ?_ _) | (with_reducible refine Kd.C_drewN ?_ _) | (with_reducible refine Kd.C_drew ?_)))
               (case side2 => exact (Kd.R_reads' HO_8.out).2.1)
               rintro e w108 ⟨v155, rfl, ho0, hb⟩
               refine ⟨_, rfl, ?_⟩
               have n0_ := Aside0.mk (Kd.R_elder' (by (with_reducible repeat (first | apply Kd.R_alloc | apply Kd.R_drewN | apply Kd.R_drew)); exact HO_8.out) (Kd.R_base ho0) hb)
               have n1_ := Aside0.mk (Kd.R_elder' (by (with_reducible repeat (first | apply Kd.R_alloc | apply Kd.R_drewN | apply Kd.R_drew)); exact HO_9.out) (Kd.R_base ho0) hb)
               have n2_ := Aside0.mk (Kd.R_elder' (by (with_reducible repeat (first | apply Kd.R_alloc | apply Kd.R_drewN | apply Kd.R_drew)); exact HO143.out) (Kd.R_base ho0) hb)
               have n3_ := Aside0.mk (Kd.R_elder' (by (with_reducible repeat (first | apply Kd.R_alloc | apply Kd.R_drewN | apply Kd.R_drew)); exact HO147.out) (Kd.R_base ho0) hb)
               have n4_ := Aside0.mk (Kd.R_elder' (by (with_reducible repeat (first | apply Kd.R_alloc | apply Kd.R_drewN | apply Kd.R_drew)); exact HO152.out) (Kd.R_base ho0) hb)
               have n5_ := Aside0.mk (Kd.R_lower (Kd.R_new' (Kd.R_new' (Kd.R_new' (Kd.R_new' (Kd.R_new' ho0 (Kd.R_lt (by (with_reducible repeat (first | apply Kd.R_alloc | apply Kd.R_drewN | apply Kd.R_drew)); exact HO_8.out))) (Kd.R_lt (by (with_reducible repeat (first | apply Kd.R_alloc | apply Kd.R_drewN | apply Kd.R_drew)); exact HO_9.out))) (Kd.R_lt (by (with_reducible repeat (first | apply Kd.R_alloc | apply Kd.R_drewN | apply Kd.R_drew)); exact HO143.out))) (Kd.R_lt (by (with_reducible repeat (first | apply Kd.R_alloc | apply Kd.R_drewN | apply Kd.R_drew)); exact HO147.out))) (Kd.R_lt (by (with_reducible repeat (first | apply Kd.R_alloc | apply Kd.R_drewN | apply Kd.R_drew)); exact HO152.out))) (below_size (by repeat (first | (with_reducible first | exact HB.out | apply below_alloc | apply pw_below_drewN | apply below_drew1 | refine below_set ?_ GE101.out | refine below_set ?_ GE102.out) | exact HB.out))))
               have n6_ := Aside0.mk (blk_below (g := gb101) (o := .cells #[.slice A1_0 l1_0.length c1_0, .slice A1_1 l1_1.length c1_1] 24 (0, 0)) (by (with_reducible repeat (first | refine blk_drewN ?_ _ | refine blk_drew ?_ | refine blk_alloc ?_ _)); exact BK101.out) hb)
               have n7_ := Aside0.mk (blk_below (g := gb102) (o := .cells #[.int .i64 a2_0, .int .i64 a2_1] 25 (0, 0)) (by (with_reducible repeat (first | refine blk_drewN ?_ _ | refine blk_drew ?_ | refine blk_alloc ?_ _)); exact BK102.out) hb)
               have n8_ := Aside0.mk (below_step (by repeat (first | (with_reducible first | exact HB.out | apply below_alloc | apply pw_below_drewN | apply below_drew1 | refine below_set ?_ GE101.out | refine below_set ?_ GE102.out) | exact HB.out)) hb)
               clear HO_8 HO_9 HO143 HO147 HO152 BK101 BK102 HB; have HO_8 := n0_; have HO_9 := n1_; have HO143 := n2_; have HO147 := n3_; have HO152 := n4_; have HO156 := n5_; have BK101 := n6_; have BK102 := n7_; have HB := n8_; clear n0_ n1_ n2_ n3_ n4_ n5_ n6_ n7_ n8_; (try clear hb); (try clear hb2); (try clear hk); (try clear hi); (try clear ho0)
               obtain ⟨Ao109, co109, eo109⟩ := Kd.R_slice HO152.out
               (first | subst eo109 | (injection eo109 with f1_ f2_ f3_; have f4_ := f1_.symm; have f5_ := f3_.symm; clear f1_ f2_ f3_; subst f4_; subst f5_))
               obtain ⟨Ao110, co110, eo110⟩ := Kd.R_slice HO156.out
               (first | subst eo110 | (injection eo110 with f1_ f2_ f3_; have f4_ := f1_.symm; have f5_ := f3_.symm; clear f1_ f2_ f3_; subst f4_; subst f5_))
               refine hK.out _ _ ⟨(blk_cell BK102.out 0).trans rfl, (blk_cell BK102.out 1).trans rfl⟩ (fun hHeld => ?_)
               clear hK K
               refine nX (some 100) ?_
               refine oX (i := 15) (N := some 101) rfl rfl HT_ (fun K hK => ?_)
               refine goes_ Try.func19 (by kernel_rfl) rfl #[.agg #[.slice Ao109 t150.length co109, .int .i64 t153], .agg #[.slice Ao110 t154.length co110, .int .i64 t157]] (by rfl) rfl rfl (by (try simp only [List.map_toArray, List.map_cons, List.map_nil]); first | done | rfl | (simp only [List.length_drop, List.length_take]; rfl)) ?_
               with_reducible refine (parolelaw37_same.calls k3 _ _ t150 t153 _ _ t154 t157 true _ ?side1 ?side2 ?side3 ?side4 A92.out).mono ?_
               (case side1 => repeat (first | exact (Kd.R_reads' HO152.out).2.2 | (with_reducible refine Kd.C_alloc ?_ _) | (with_reducible refine Kd.C_drewN ?_ _) | (with_reducible refine Kd.C_drew ?_)))
               (case side2 => exact (Kd.R_reads' HO152.out).2.1)
               (case side3 => repeat (first | exact (Kd.R_reads' HO156.out).2.2 | (with_reducible refine Kd.C_alloc ?_ _) | (with_reducible refine Kd.C_drewN ?_ _) | (with_reducible refine Kd.C_drew ?_)))
               (case side4 => exact (Kd.R_reads' HO156.out).2.1)
               rintro e w111 ⟨rfl, hb⟩
               refine ⟨_, rfl, ?_⟩
               have n0_ := Aside0.mk (Kd.R_below (by (with_reducible repeat (first | apply Kd.R_alloc | apply Kd.R_drewN | apply Kd.R_drew)); exact HO_8.out) hb)
               have n1_ := Aside0.mk (Kd.R_below (by (with_reducible repeat (first | apply Kd.R_alloc | apply Kd.R_drewN | apply Kd.R_drew)); exact HO_9.out) hb)
               have n2_ := Aside0.mk (Kd.R_below (by (with_reducible repeat (first | apply Kd.R_alloc | apply Kd.R_drewN | apply Kd.R_drew)); exact HO143.out) hb)
               have n3_ := Aside0.mk (Kd.R_below (by (with_reducible repeat (first | apply Kd.R_alloc | apply Kd.R_drewN | apply Kd.R_drew)); exact HO147.out) hb)
               have n4_ := Aside0.mk (Kd.R_below (by (with_reducible repeat (first | apply Kd.R_alloc | apply Kd.R_drewN | apply Kd.R_drew)); exact HO152.out) hb)
               have n5_ := Aside0.mk (Kd.R_below (by (with_reducible repeat (first | apply Kd.R_alloc | apply Kd.R_drewN | apply Kd.R_drew)); exact HO156.out) hb)
               have n6_ := Aside0.mk (blk_below (g := gb101) (o := .cells #[.slice A1_0 l1_0.length c1_0, .slice A1_1 l1_1.length c1_1] 24 (0, 0)) (by (with_reducible repeat (first | refine blk_drewN ?_ _ | refine blk_drew ?_ | refine blk_alloc ?_ _)); exact BK101.out) hb)
               have n7_ := Aside0.mk (blk_below (g := gb102) (o := .cells #[.int .i64 a2_0, .int .i64 a2_1] 25 (0, 0)) (by (with_reducible repeat (first | refine blk_drewN ?_ _ | refine blk_drew ?_ | refine blk_alloc ?_ _)); exact BK102.out) hb)
               have n8_ := Aside0.mk (below_step (by repeat (first | (with_reducible first | exact HB.out | apply below_alloc | apply pw_below_drewN | apply below_drew1 | refine below_set ?_ GE101.out | refine below_set ?_ GE102.out) | exact HB.out)) hb)
               clear HO_8 HO_9 HO143 HO147 HO152 HO156 BK101 BK102 HB; have HO_8 := n0_; have HO_9 := n1_; have HO143 := n2_; have HO147 := n3_; have HO152 := n4_; have HO156 := n5_; have BK101 := n6_; have BK102 := n7_; have HB := n8_; clear n0_ n1_ n2_ n3_ n4_ n5_ n6_ n7_ n8_; (try clear hb); (try clear hb2); (try clear hk); (try clear hi)
               refine hK.out _ _ ⟨(blk_cell BK102.out 0).trans rfl, (blk_cell BK102.out 1).trans rfl⟩ (fun hHeld => ?_)
               clear hK K
               refine nX (some 101) ?_
               refine pX (i := 16) (N := some 102) rfl rfl HT_ ?_
               refine pX (i := 17) (N := some 103) rfl rfl HT_ ?_
               refine pX (i := 18) (N := some 104) rfl rfl HT_ ?_
               refine pX (i := 19) (N := some 105) rfl rfl HT_ ?_
               refine pX (i := 20) (N := some 106) rfl rfl HT_ ?_
               refine pX (i := 22) (N := some 108) rfl rfl HT_ ?_
               refine pX (i := 23) (N := some 109) rfl rfl HT_ ?_
               refine oX (i := 21) (N := some 107) rfl rfl HT_ (fun K hK => ?_)
               refine goes_ Try.func22 (by kernel_rfl) rfl #[.slice Ao101 t104.length co101, .int .i64 x10_3] (by rfl) rfl rfl (by (try simp only [List.map_toArray, List.map_cons, List.map_nil]); first | done | rfl | (simp only [List.length_drop, List.length_take]; rfl)) ?_
               with_reducible refine (odds_Of.calls k3 _ _ t104 x10_3 t159 t160 _ ?side1 ?side2 A94.out).mono ?_
               (case side1 => repeat (first | exact (Kd.R_reads' HO_8.out).2.2 | (with_reducible refine Kd.C_alloc ?_ _) | (with_reducible refine Kd.C_drewN ?_ _) | (with_reducible refine Kd.C_drew ?_)))
               (case side2 => exact (Kd.R_reads' HO_8.out).2.1)
               rintro e w112 ⟨rfl, hb⟩
               refine ⟨_, rfl, ?_⟩
               have n0_ := Aside0.mk (Kd.R_below (by (with_reducible repeat (first | apply Kd.R_alloc | apply Kd.R_drewN | apply Kd.R_drew)); exact HO_8.out) hb)
               have n1_ := Aside0.mk (Kd.R_below (by (with_reducible repeat (first | apply Kd.R_alloc | apply Kd.R_drewN | apply Kd.R_drew)); exact HO_9.out) hb)
               have n2_ := Aside0.mk (Kd.R_below (by (with_reducible repeat (first | apply Kd.R_alloc | apply Kd.R_drewN | apply Kd.R_drew)); exact HO143.out) hb)
               have n3_ := Aside0.mk (Kd.R_below (by (with_reducible repeat (first | apply Kd.R_alloc | apply Kd.R_drewN | apply Kd.R_drew)); exact HO147.out) hb)
               have n4_ := Aside0.mk (Kd.R_below (by (with_reducible repeat (first | apply Kd.R_alloc | apply Kd.R_drewN | apply Kd.R_drew)); exact HO152.out) hb)
               have n5_ := Aside0.mk (Kd.R_below (by (with_reducible repeat (first | apply Kd.R_alloc | apply Kd.R_drewN | apply Kd.R_drew)); exact HO156.out) hb)
               have n6_ := Aside0.mk (blk_below (g := gb101) (o := .cells #[.slice A1_0 l1_0.length c1_0, .slice A1_1 l1_1.length c1_1] 24 (0, 0)) (by (with_reducible repeat (first | refine blk_drewN ?_ _ | refine blk_drew ?_ | refine blk_alloc ?_ _)); exact BK101.out) hb)
               have n7_ := Aside0.mk (blk_below (g := gb102) (o := .cells #[.int .i64 a2_0, .int .i64 a2_1] 25 (0, 0)) (by (with_reducible repeat (first | refine blk_drewN ?_ _ | refine blk_drew ?_ | refine blk_alloc ?_ _)); exact BK102.out) hb)
               have n8_ := Aside0.mk (below_step (by repeat (first | (with_reducible first | exact HB.out | apply below_alloc | apply pw_below_drewN | apply below_drew1 | refine below_set ?_ GE101.out | refine below_set ?_ GE102.out) | exact HB.out)) hb)
               clear HO_8 HO_9 HO143 HO147 HO152 HO156 BK101 BK102 HB; have HO_8 := n0_; have HO_9 := n1_; have HO143 := n2_; have HO147 := n3_; have HO152 := n4_; have HO156 := n5_; have BK101 := n6_; have BK102 := n7_; have HB := n8_; clear n0_ n1_ n2_ n3_ n4_ n5_ n6_ n7_ n8_; (try clear hb); (try clear hb2); (try clear hk); (try clear hi)
               refine hK.out _ _ ⟨(blk_cell BK102.out 0).trans rfl, (blk_cell BK102.out 1).trans rfl⟩ (fun hHeld => ?_)
               clear hK K
               refine nX (some 107) ?_
               refine oX (i := 24) (N := some 110) rfl rfl HT_ (fun K hK => ?_)
               refine goes_ Try.func23 (by kernel_rfl) rfl #[.slice Ao101 t104.length co101, .int .i64 x10_3] (by rfl) rfl rfl (by (try simp only [List.map_toArray, List.map_cons, List.map_nil]); first | done | rfl | (simp only [List.length_drop, List.length_take]; rfl)) ?_
               with_reducible refine (paroleref37_Of.calls k3 _ _ t104 x10_3 t161 t162 _ ?side1 ?side2 A95.out).mono ?_
               (case side1 => repeat (first | exact (Kd.R_reads' HO_8.out).2.2 | (with_reducible refine Kd.C_alloc ?_ _) | (with_reducible refine Kd.C_drewN ?_ _) | (with_reducible refine Kd.C_drew ?_)))
               (case side2 => exact (Kd.R_reads' HO_8.out).2.1)
               rintro e w113 ⟨rfl, hb⟩
               refine ⟨_, rfl, ?_⟩
               have n0_ := Aside0.mk (Kd.R_below (by (with_reducible repeat (first | apply Kd.R_alloc | apply Kd.R_drewN | apply Kd.R_drew)); exact HO_8.out) hb)
               have n1_ := Aside0.mk (Kd.R_below (by (with_reducible repeat (first | apply Kd.R_alloc | apply Kd.R_drewN | apply Kd.R_drew)); exact HO_9.out) hb)
               have n2_ := Aside0.mk (Kd.R_below (by (with_reducible repeat (first | apply Kd.R_alloc | apply Kd.R_drewN | apply Kd.R_drew)); exact HO143.out) hb)
               have n3_ := Aside0.mk (Kd.R_below (by (with_reducible repeat (first | apply Kd.R_alloc | apply Kd.R_drewN | apply Kd.R_drew)); exact HO147.out) hb)
               have n4_ := Aside0.mk (Kd.R_below (by (with_reducible repeat (first | apply Kd.R_alloc | apply Kd.R_drewN | apply Kd.R_drew)); exact HO152.out) hb)
               have n5_ := Aside0.mk (Kd.R_below (by (with_reducible repeat (first | apply Kd.R_alloc | apply Kd.R_drewN | apply Kd.R_drew)); exact HO156.out) hb)
               have n6_ := Aside0.mk (blk_below (g := gb101) (o := .cells #[.slice A1_0 l1_0.length c1_0, .slice A1_1 l1_1.length c1_1] 24 (0, 0)) (by (with_reducible repeat (first | refine blk_drewN ?_ _ | refine blk_drew ?_ | refine blk_alloc ?_ _)); exact BK101.out) hb)
               have n7_ := Aside0.mk (blk_below (g := gb102) (o := .cells #[.int .i64 a2_0, .int .i64 a2_1] 25 (0, 0)) (by (with_reducible repeat (first | refine blk_drewN ?_ _ | refine blk_drew ?_ | refine blk_alloc ?_ _)); exact BK102.out) hb)
               have n8_ := Aside0.mk (below_step (by repeat (first | (with_reducible first | exact HB.out | apply below_alloc | apply pw_below_drewN | apply below_drew1 | refine below_set ?_ GE101.out | refine below_set ?_ GE102.out) | exact HB.out)) hb)
               clear HO_8 HO_9 HO143 HO147 HO152 HO156 BK101 BK102 HB; have HO_8 := n0_; have HO_9 := n1_; have HO143 := n2_; have HO147 := n3_; have HO152 := n4_; have HO156 := n5_; have BK101 := n6_; have BK102 := n7_; have HB := n8_; clear n0_ n1_ n2_ n3_ n4_ n5_ n6_ n7_ n8_; (try clear hb); (try clear hb2); (try clear hk); (try clear hi)
               obtain ⟨Ao114, co114, eo114⟩ := Kd.R_slice HO_9.out
               (first | subst eo114 | (injection eo114 with f1_ f2_ f3_; have f4_ := f1_.symm; have f5_ := f3_.symm; clear f1_ f2_ f3_; subst f4_; subst f5_))
               refine hK.out _ _ ⟨(blk_cell BK102.out 0).trans rfl, (blk_cell BK102.out 1).trans rfl⟩ (fun hHeld => ?_)
               clear hK K
               refine nX (some 110) ?_
               refine pX (i := 25) (N := some 111) rfl rfl HT_ ?_
               refine pX (i := 26) (N := some 112) rfl rfl HT_ ?_
               refine pX (i := 27) (N := some 113) rfl rfl HT_ ?_
               refine pX (i := 28) (N := some 114) rfl rfl HT_ ?_
               refine pX (i := 29) (N := some 115) rfl rfl HT_ ?_
               refine pX (i := 30) (N := some 116) rfl rfl HT_ ?_
               refine pX (i := 33) (N := some 119) rfl rfl HT_ ?_
               refine pX (i := 34) (N := some 120) rfl rfl HT_ ?_
               refine pX (i := 35) (N := some 121) rfl rfl HT_ ?_
               refine tX (i := 31) (N := some 117) rfl rfl HT_ HW_ hHeld (Or.inl ⟨by rfl, by rintro w' ⟨s0, s1⟩; go_simp; with_reducible rfl⟩) ?_
               refine tX (i := 36) (N := some 122) rfl rfl HT_ HW_ hHeld (Or.inl ⟨by rfl, by rintro w' ⟨s0, s1⟩; go_simp; with_reducible rfl⟩) ?_
               refine oX (i := 32) (N := some 118) rfl rfl HT_ (fun K hK => ?_)
               refine goes_ Try.func24 (by kernel_rfl) rfl #[.slice Ao114 t107.length co114, .int .i64 x10_3, .int .i64 a2_1] (by rfl) rfl rfl (by (try simp only [List.map_toArray, List.map_cons, List.map_nil]); first | done | rfl | (simp only [List.length_drop, List.length_take]; rfl)) ?_
               with_reducible refine (parolelaw37_loss.calls k3 _ _ t107 x10_3 a2_1 t163 t164 t165 _ ?side1 ?side2 A97.out).mono ?_
               (case side1 => repeat (first | exact (Kd.R_reads' HO_9.out).2.2 | (with_reducible refine Kd.C_alloc ?_ _) | (with_reducible refine Kd.C_drewN ?_ _) | (with_reducible refine Kd.C_drew ?_)))
               (case side2 => exact (Kd.R_reads' HO_9.out).2.1)
               rintro e w115 ⟨rfl, hb⟩
               refine ⟨_, rfl, ?_⟩
               have n0_ := Aside0.mk (Kd.R_below (by (with_reducible repeat (first | apply Kd.R_alloc | apply Kd.R_drewN | apply Kd.R_drew)); exact HO_8.out) hb)
               have n1_ := Aside0.mk (Kd.R_below (by (with_reducible repeat (first | apply Kd.R_alloc | apply Kd.R_drewN | apply Kd.R_drew)); exact HO_9.out) hb)
               have n2_ := Aside0.mk (Kd.R_below (by (with_reducible repeat (first | apply Kd.R_alloc | apply Kd.R_drewN | apply Kd.R_drew)); exact HO143.out) hb)
               have n3_ := Aside0.mk (Kd.R_below (by (with_reducible repeat (first | apply Kd.R_alloc | apply Kd.R_drewN | apply Kd.R_drew)); exact HO147.out) hb)
               have n4_ := Aside0.mk (Kd.R_below (by (with_reducible repeat (first | apply Kd.R_alloc | apply Kd.R_drewN | apply Kd.R_drew)); exact HO152.out) hb)
               have n5_ := Aside0.mk (Kd.R_below (by (with_reducible repeat (first | apply Kd.R_alloc | apply Kd.R_drewN | apply Kd.R_drew)); exact HO156.out) hb)
               have n6_ := Aside0.mk (blk_below (g := gb101) (o := .cells #[.slice A1_0 l1_0.length c1_0, .slice A1_1 l1_1.length c1_1] 24 (0, 0)) (by (with_reducible repeat (first | refine blk_drewN ?_ _ | refine blk_drew ?_ | refine blk_alloc ?_ _)); exact BK101.out) hb)
               have n7_ := Aside0.mk (blk_below (g := gb102) (o := .cells #[.int .i64 a2_0, .int .i64 a2_1] 25 (0, 0)) (by (with_reducible repeat (first | refine blk_drewN ?_ _ | refine blk_drew ?_ | refine blk_alloc ?_ _)); exact BK102.out) hb)
               have n8_ := Aside0.mk (below_step (by repeat (first | (with_reducible first | exact HB.out | apply below_alloc | apply pw_below_drewN | apply below_drew1 | refine below_set ?_ GE101.out | refine below_set ?_ GE102.out) | exact HB.out)) hb)
               clear HO_8 HO_9 HO143 HO147 HO152 HO156 BK101 BK102 HB; have HO_8 := n0_; have HO_9 := n1_; have HO143 := n2_; have HO147 := n3_; have HO152 := n4_; have HO156 := n5_; have BK101 := n6_; have BK102 := n7_; have HB := n8_; clear n0_ n1_ n2_ n3_ n4_ n5_ n6_ n7_ n8_; (try clear hb); (try clear hb2); (try clear hk); (try clear hi)
               refine hK.out _ _ ⟨(blk_cell BK102.out 0).trans rfl, (blk_cell BK102.out 1).trans rfl⟩ (fun hHeld => ?_)
               clear hK K
               refine nX (some 118) ?_
               refine oX (i := 37) (N := some 123) rfl rfl HT_ (fun K hK => ?_)
               refine goes_ Try.func25 (by kernel_rfl) rfl #[.slice Ao114 t107.length co114, .int .i64 x10_3, .int .i64 a2_1] (by rfl) rfl rfl (by (try simp only [List.map_toArray, List.map_cons, List.map_nil]); first | done | rfl | (simp only [List.length_drop, List.length_take]; rfl)) ?_
               with_reducible refine (paroleref37_Loss.calls k3 _ _ t107 x10_3 a2_1 t166 t167 t168 _ ?side1 ?side2 A98.out).mono ?_
               (case side1 => repeat (first | exact (Kd.R_reads' HO_9.out).2.2 | (with_reducible refine Kd.C_alloc ?_ _) | (with_reducible refine Kd.C_drewN ?_ _) | (with_reducible refine Kd.C_drew ?_)))
               (case side2 => exact (Kd.R_reads' HO_9.out).2.1)
               rintro e w116 ⟨rfl, hb⟩
               refine ⟨_, rfl, ?_⟩
               have n0_ := Aside0.mk (Kd.R_below (by (with_reducible repeat (first | apply Kd.R_alloc | apply Kd.R_drewN | apply Kd.R_drew)); exact HO_8.out) hb)
               have n1_ := Aside0.mk (Kd.R_below (by (with_reducible repeat (first | apply Kd.R_alloc | apply Kd.R_drewN | apply Kd.R_drew)); exact HO_9.out) hb)
               have n2_ := Aside0.mk (Kd.R_below (by (with_reducible repeat (first | apply Kd.R_alloc | apply Kd.R_drewN | apply Kd.R_drew)); exact HO143.out) hb)
               have n3_ := Aside0.mk (Kd.R_below (by (with_reducible repeat (first | apply Kd.R_alloc | apply Kd.R_drewN | apply Kd.R_drew)); exact HO147.out) hb)
               have n4_ := Aside0.mk (Kd.R_below (by (with_reducible repeat (first | apply Kd.R_alloc | apply Kd.R_drewN | apply Kd.R_drew)); exact HO152.out) hb)
               have n5_ := Aside0.mk (Kd.R_below (by (with_reducible repeat (first | apply Kd.R_alloc | apply Kd.R_drewN | apply Kd.R_drew)); exact HO156.out) hb)
               have n6_ := Aside0.mk (blk_below (g := gb101) (o := .cells #[.slice A1_0 l1_0.length c1_0, .slice A1_1 l1_1.length c1_1] 24 (0, 0)) (by (with_reducible repeat (first | refine blk_drewN ?_ _ | refine blk_drew ?_ | refine blk_alloc ?_ _)); exact BK101.out) hb)
               have n7_ := Aside0.mk (blk_below (g := gb102) (o := .cells #[.int .i64 a2_0, .int .i64 a2_1] 25 (0, 0)) (by (with_reducible repeat (first | refine blk_drewN ?_ _ | refine blk_drew ?_ | refine blk_alloc ?_ _)); exact BK102.out) hb)
               have n8_ := Aside0.mk (below_step (by repeat (first | (with_reducible first | exact HB.out | apply below_alloc | apply pw_below_drewN | apply below_drew1 | refine below_set ?_ GE101.out | refine below_set ?_ GE102.out) | exact HB.out)) hb)
               clear HO_8 HO_9 HO143 HO147 HO152 HO156 BK101 BK102 HB; have HO_8 := n0_; have HO_9 := n1_; have HO143 := n2_; have HO147 := n3_; have HO152 := n4_; have HO156 := n5_; have BK101 := n6_; have BK102 := n7_; have HB := n8_; clear n0_ n1_ n2_ n3_ n4_ n5_ n6_ n7_ n8_; (try clear hb); (try clear hb2); (try clear hk); (try clear hi)
               refine hK.out _ _ ⟨(blk_cell BK102.out 0).trans rfl, (blk_cell BK102.out 1).trans rfl⟩ (fun hHeld => ?_)
               clear hK K
               refine nX (some 123) ?_
               refine pX (i := 38) (N := some 124) rfl rfl HT_ ?_
               refine pX (i := 39) (N := some 125) rfl rfl HT_ ?_
               refine done_ (done_of HT_.out (by kernel_rfl)) ?_
               try go_wp2
               go_roundg k3
               case measure => have := HJ5.out; have := HJ18.out; have := HK3.out; omega
               case rel => exact ⟨(wrap64 (x10_3 + 1)), (by first | rfl | (simp; done) | (simp [*]; done)), H', ⟨by have := HJ5.out; have := HJ18.out; have := HK3.out; omega⟩, ⟨by (with_reducible repeat (first | apply Kd.R_alloc | apply Kd.R_drewN | apply Kd.R_drew)); exact Kd.R_mono HO_8.out (fun _ hk => hk.1.1.1.1)⟩, ⟨by (with_reducible repeat (first | apply Kd.R_alloc | apply Kd.R_drewN | apply Kd.R_drew)); exact Kd.R_mono HO_9.out (fun _ hk => hk.1.1.1.1)⟩, ⟨by (with_reducible repeat (first | refine blk_drewN ?_ _ | refine blk_drew ?_ | refine blk_alloc ?_ _)); exact BK101.out⟩, ⟨by (with_reducible repeat (first | refine blk_drewN ?_ _ | refine blk_drew ?_ | refine blk_alloc ?_ _)); exact BK102.out⟩, ⟨by repeat (first | (with_reducible first | exact HB.out | apply below_alloc | apply pw_below_drewN | apply below_drew1 | refine below_set ?_ GE101.out | refine below_set ?_ GE102.out) | exact HB.out)⟩⟩
            ·replace c93 := Bool.eq_false_iff.mpr c93
             subst c93
             have H1 : (some false) = some r := by rw [if_neg (show ¬ (false = true) by decide)] at H; exact H
             clear H
             have H := H1
             clear H1
             exact absurd ((Option.some.inj H).trans HT.out) (by decide)
           ·replace c89 := Bool.eq_false_iff.mpr c89
            subst c89
            have H1 : (some false) = some r := by rw [if_neg (show ¬ (false = true) by decide)] at H; exact H
            clear H
            have H := H1
            clear H1
            exact absurd ((Option.some.inj H).trans HT.out) (by decide)
          ·rw [if_neg c85] at H
           have c85b0 : decide (x10_3 < 16) = false := decide_eq_false c85
           clear c85
           replace H := Option.bind_eq_some_iff.mp H
           obtain ⟨⟨t132, t135⟩, A1170, H⟩ := H
           replace H : ((paroleref37_Learn.f k3 t104 a2_0 true).bind fun bt136 => ((parolelaw37_same.f k3 t132 t135 bt136.1 bt136.2).bind fun t140 => (if t140 = true then (some true) else (some false)))) = some r := H
           have A117 := Aside0.mk A1170
           clear A1170
           replace H := Option.bind_eq_some_iff.mp H
           obtain ⟨⟨t136, t139⟩, A1180, H⟩ := H
           replace H : ((parolelaw37_same.f k3 t132 t135 t136 t139).bind fun t140 => (if t140 = true then (some true) else (some false))) = some r := H
           have A118 := Aside0.mk A1180
           clear A1180
           replace H := Option.bind_eq_some_iff.mp H
           obtain ⟨t140, A1190, H⟩ := H
           replace H : (if t140 = true then (some true) else (some false)) = some r := H
           have A119 := Aside0.mk A1190
           clear A1190
           by_cases c120 : t140 = true
           ·subst c120
            have H1 : (some true) = some r := by rw [if_pos rfl] at H; exact H
            clear H
            have H := H1
            clear H1
            obtain rfl := Option.some.inj H
            try go_wp2
            have n0_ := Aside0.mk (Kd.R_drew HO_8.out)
            have n1_ := Aside0.mk (Kd.R_drew HO_9.out)
            have n2_ := Aside0.mk (blk_drew BK101.out)
            have n3_ := Aside0.mk (blk_drew BK102.out)
            have n4_ := Aside0.mk (below_drew1 HB.out)
            clear HO_8 HO_9 BK101 BK102 HB; have HO_8 := n0_; have HO_9 := n1_; have BK101 := n2_; have BK102 := n3_; have HB := n4_; clear n0_ n1_ n2_ n3_ n4_
            obtain ⟨Ao122, co122, eo122⟩ := Kd.R_slice HO_8.out
            (first | subst eo122 | (injection eo122 with f1_ f2_ f3_; have f4_ := f1_.symm; have f5_ := f3_.symm; clear f1_ f2_ f3_; subst f4_; subst f5_))
            refine start_ (n := 13) (S := fun w' => w'.cell? ⟨gb102, 0, none⟩ = some (.int .i64 a2_0) ∧ w'.cell? ⟨gb102, 1, none⟩ = some (.int .i64 a2_1)) (ds := []) #[false, false, false, false, false, false, false, false, false, false, false, false, false] (by kernel_rfl) rfl rfl ⟨(blk_cell BK102.out 0).trans rfl, (blk_cell BK102.out 1).trans rfl⟩ (fun hHeld => ?_); refine with_tabW parolelaw37_OddsMatchesReference.tab14 parolelaw37_OddsMatchesReference.bits14 (fun HT_ HW_ => ?_)
            generalize wr.drew = w121 at HO_8 HO_9 BK101 BK102 HB hHeld ⊢
            refine pX (i := 0) (N := some 126) rfl rfl HT_ ?_
            refine pX (i := 1) (N := some 127) rfl rfl HT_ ?_
            refine pX (i := 4) (N := some 130) rfl rfl HT_ ?_
            refine pX (i := 5) (N := some 131) rfl rfl HT_ ?_
            refine tX (i := 2) (N := some 128) rfl rfl HT_ HW_ hHeld (Or.inl ⟨by rfl, by rintro w' ⟨s0, s1⟩; go_simp; with_reducible rfl⟩) ?_
            refine tX (i := 6) (N := some 132) rfl rfl HT_ HW_ hHeld (Or.inl ⟨by rfl, by rintro w' ⟨s0, s1⟩; go_simp; with_reducible rfl⟩) ?_
            refine oX (i := 3) (N := some 129) rfl rfl HT_ (fun K hK => ?_)
            refine goes_ Try.func26 (by kernel_rfl) rfl #[.slice Ao122 t104.length co122, .int .i64 a2_0, .bool true] (by rfl) rfl rfl (by (try simp only [List.map_toArray, List.map_cons, List.map_nil]); first | done | rfl | (simp only [List.length_drop, List.length_take]; rfl)) ?_
            with_reducible refine (parolelaw37_learned.calls k3 _ _ t104 a2_0 true t132 t135 _ ?side1 ?side2 A117.out).mono ?_
            (case side1 => repeat (first | exact (Kd.R_reads' HO_8.out).2.2 | (with_reducible refine Kd.C_alloc ?_ _) | (with_reducible refine Kd.C_drewN ?_ _) | (with_reducible refine Kd.C_drew ?_)))
            (case side2 => exact (Kd.R_reads' HO_8.out).2.1)
            rintro e w123 ⟨v133, rfl, ho0, hb⟩
            refine ⟨_, rfl, ?_⟩
            have n0_ := Aside0.mk (Kd.R_elder' (by (with_reducible repeat (first | apply Kd.R_alloc | apply Kd.R_drewN | apply Kd.R_drew)); exact HO_8.out) (Kd.R_base ho0) hb)
            have n1_ := Aside0.mk (Kd.R_elder' (by (with_reducible repeat (first | apply Kd.R_alloc | apply Kd.R_drewN | apply Kd.R_drew)); exact HO_9.out) (Kd.R_base ho0) hb)
            have n2_ := Aside0.mk (Kd.R_lower (Kd.R_new' (Kd.R_new' ho0 (Kd.R_lt (by (with_reducible repeat (first | apply Kd.R_alloc | apply Kd.R_drewN | apply Kd.R_drew)); exact HO_8.out))) (Kd.R_lt (by (with_reducible repeat (first | apply Kd.R_alloc | apply Kd.R_drewN | apply Kd.R_drew)); exact HO_9.out))) (below_size (by repeat (first | (with_reducible first | exact HB.out | apply below_alloc | apply pw_below_drewN | apply below_drew1 | refine below_set ?_ GE101.out | refine below_set ?_ GE102.out) | exact HB.out))))
            have n3_ := Aside0.mk (blk_below (g := gb101) (o := .cells #[.slice A1_0 l1_0.length c1_0, .slice A1_1 l1_1.length c1_1] 24 (0, 0)) (by (with_reducible repeat (first | refine blk_drewN ?_ _ | refine blk_drew ?_ | refine blk_alloc ?_ _)); exact BK101.out) hb)
            have n4_ := Aside0.mk (blk_below (g := gb102) (o := .cells #[.int .i64 a2_0, .int .i64 a2_1] 25 (0, 0)) (by (with_reducible repeat (first | refine blk_drewN ?_ _ | refine blk_drew ?_ | refine blk_alloc ?_ _)); exact BK102.out) hb)
            have n5_ := Aside0.mk (below_step (by repeat (first | (with_reducible first | exact HB.out | apply below_alloc | apply pw_below_drewN | apply below_drew1 | refine below_set ?_ GE101.out | refine below_set ?_ GE102.out) | exact HB.out)) hb)
            clear HO_8 HO_9 BK101 BK102 HB; have HO_8 := n0_; have HO_9 := n1_; have HO134 := n2_; have BK101 := n3_; have BK102 := n4_; have HB := n5_; clear n0_ n1_ n2_ n3_ n4_ n5_; (try clear hb); (try clear hb2); (try clear hk); (try clear hi); (try clear ho0)
            refine hK.out _ _ ⟨(blk_cell BK102.out 0).trans rfl, (blk_cell BK102.out 1).trans rfl⟩ (fun hHeld => ?_)
            clear hK K
            refine nX (some 129) ?_
            refine oX (i := 7) (N := some 133) rfl rfl HT_ (fun K hK => ?_)
            refine goes_ Try.func27 (by kernel_rfl) rfl #[.slice Ao122 t104.length co122, .int .i64 a2_0, .bool true] (by rfl) rfl rfl (by (try simp only [List.map_toArray, List.map_cons, List.map_nil]); first | done | rfl | (simp only [List.length_drop, List.length_take]; rfl)) ?_
            with_reducible refine (paroleref37_Learn.calls k3 _ _ t104 a2_0 true t136 t139 _ ?side1 ?side2 A118.out).mono ?_
            (case side1 => repeat (first | exact (Kd.R_reads' HO_8.out).2.2 | (with_reducible refine Kd.C_alloc ?_ _) | (with_reducible refine Kd.C_drewN ?_ _) | (with_reducible refine Kd.C_drew ?_)))
            (case side2 => exact (Kd.R_reads' HO_8.out).2.1)
            rintro e w124 ⟨v137, rfl, ho0, hb⟩
            refine ⟨_, rfl, ?_⟩
            have n0_ := Aside0.mk (Kd.R_elder' (by (with_reducible repeat (first | apply Kd.R_alloc | apply Kd.R_drewN | apply Kd.R_drew)); exact HO_8.out) (Kd.R_base ho0) hb)
            have n1_ := Aside0.mk (Kd.R_elder' (by (with_reducible repeat (first | apply Kd.R_alloc | apply Kd.R_drewN | apply Kd.R_drew)); exact HO_9.out) (Kd.R_base ho0) hb)
            have n2_ := Aside0.mk (Kd.R_elder' (by (with_reducible repeat (first | apply Kd.R_alloc | apply Kd.R_drewN | apply Kd.R_drew)); exact HO134.out) (Kd.R_base ho0) hb)
            have n3_ := Aside0.mk (Kd.R_lower (Kd.R_new' (Kd.R_new' (Kd.R_new' ho0 (Kd.R_lt (by (with_reducible repeat (first | apply Kd.R_alloc | apply Kd.R_drewN | apply Kd.R_drew)); exact HO_8.out))) (Kd.R_lt (by (with_reducible repeat (first | apply Kd.R_alloc | apply Kd.R_drewN | apply Kd.R_drew)); exact HO_9.out))) (Kd.R_lt (by (with_reducible repeat (first | apply Kd.R_alloc | apply Kd.R_drewN | apply Kd.R_drew)); exact HO134.out))) (below_size (by repeat (first | (with_reducible first | exact HB.out | apply below_alloc | apply pw_below_drewN | apply below_drew1 | refine below_set ?_ GE101.out | refine below_set ?_ GE102.out) | exact HB.out))))
            have n4_ := Aside0.mk (blk_below (g := gb101) (o := .cells #[.slice A1_0 l1_0.length c1_0, .slice A1_1 l1_1.length c1_1] 24 (0, 0)) (by (with_reducible repeat (first | refine blk_drewN ?_ _ | refine blk_drew ?_ | refine blk_alloc ?_ _)); exact BK101.out) hb)
            have n5_ := Aside0.mk (blk_below (g := gb102) (o := .cells #[.int .i64 a2_0, .int .i64 a2_1] 25 (0, 0)) (by (with_reducible repeat (first | refine blk_drewN ?_ _ | refine blk_drew ?_ | refine blk_alloc ?_ _)); exact BK102.out) hb)
            have n6_ := Aside0.mk (below_step (by repeat (first | (with_reducible first | exact HB.out | apply below_alloc | apply pw_below_drewN | apply below_drew1 | refine below_set ?_ GE101.out | refine below_set ?_ GE102.out) | exact HB.out)) hb)
            clear HO_8 HO_9 HO134 BK101 BK102 HB; have HO_8 := n0_; have HO_9 := n1_; have HO134 := n2_; have HO138 := n3_; have BK101 := n4_; have BK102 := n5_; have HB := n6_; clear n0_ n1_ n2_ n3_ n4_ n5_ n6_; (try clear hb); (try clear hb2); (try clear hk); (try clear hi); (try clear ho0)
            obtain ⟨Ao125, co125, eo125⟩ := Kd.R_slice HO134.out
            (first | subst eo125 | (injection eo125 with f1_ f2_ f3_; have f4_ := f1_.symm; have f5_ := f3_.symm; clear f1_ f2_ f3_; subst f4_; subst f5_))
            obtain ⟨Ao126, co126, eo126⟩ := Kd.R_slice HO138.out
            (first | subst eo126 | (injection eo126 with f1_ f2_ f3_; have f4_ := f1_.symm; have f5_ := f3_.symm; clear f1_ f2_ f3_; subst f4_; subst f5_))
            refine hK.out _ _ ⟨(blk_cell BK102.out 0).trans rfl, (blk_cell BK102.out 1).trans rfl⟩ (fun hHeld => ?_)
            clear hK K
            refine nX (some 133) ?_
            refine oX (i := 8) (N := some 134) rfl rfl HT_ (fun K hK => ?_)
            refine goes_ Try.func19 (by kernel_rfl) rfl #[.agg #[.slice Ao125 t132.length co125, .int .i64 t135], .agg #[.slice Ao126 t136.length co126, .int .i64 t139]] (by rfl) rfl rfl (by (try simp only [List.map_toArray, List.map_cons, List.map_nil]); first | done | rfl | (simp only [List.length_drop, List.length_take]; rfl)) ?_
            with_reducible refine (parolelaw37_same.calls k3 _ _ t132 t135 _ _ t136 t139 true _ ?side1 ?side2 ?side3 ?side4 A119.out).mono ?_
            (case side1 => repeat (first | exact (Kd.R_reads' HO134.out).2.2 | (with_reducible refine Kd.C_alloc ?_ _) | (with_reducible refine Kd.C_drewN ?_ _) | (with_reducible refine Kd.C_drew ?_)))
            (case side2 => exact (Kd.R_reads' HO134.out).2.1)
            (case side3 => repeat (first | exact (Kd.R_reads' HO138.out).2.2 | (with_reducible refine Kd.C_alloc ?_ _) | (with_reducible refine Kd.C_drewN ?_ _) | (with_reducible refine Kd.C_drew ?_)))
            (case side4 => exact (Kd.R_reads' HO138.out).2.1)
            rintro e w127 ⟨rfl, hb⟩
            refine ⟨_, rfl, ?_⟩
            have n0_ := Aside0.mk (Kd.R_below (by (with_reducible repeat (first | apply Kd.R_alloc | apply Kd.R_drewN | apply Kd.R_drew)); exact HO_8.out) hb)
            have n1_ := Aside0.mk (Kd.R_below (by (with_reducible repeat (first | apply Kd.R_alloc | apply Kd.R_drewN | apply Kd.R_drew)); exact HO_9.out) hb)
            have n2_ := Aside0.mk (Kd.R_below (by (with_reducible repeat (first | apply Kd.R_alloc | apply Kd.R_drewN | apply Kd.R_drew)); exact HO134.out) hb)
            have n3_ := Aside0.mk (Kd.R_below (by (with_reducible repeat (first | apply Kd.R_alloc | apply Kd.R_drewN | apply Kd.R_drew)); exact HO138.out) hb)
            have n4_ := Aside0.mk (blk_below (g := gb101) (o := .cells #[.slice A1_0 l1_0.length c1_0, .slice A1_1 l1_1.length c1_1] 24 (0, 0)) (by (with_reducible repeat (first | refine blk_drewN ?_ _ | refine blk_drew ?_ | refine blk_alloc ?_ _)); exact BK101.out) hb)
            have n5_ := Aside0.mk (blk_below (g := gb102) (o := .cells #[.int .i64 a2_0, .int .i64 a2_1] 25 (0, 0)) (by (with_reducible repeat (first | refine blk_drewN ?_ _ | refine blk_drew ?_ | refine blk_alloc ?_ _)); exact BK102.out) hb)
            have n6_ := Aside0.mk (below_step (by repeat (first | (with_reducible first | exact HB.out | apply below_alloc | apply pw_below_drewN | apply below_drew1 | refine below_set ?_ GE101.out | refine below_set ?_ GE102.out) | exact HB.out)) hb)
            clear HO_8 HO_9 HO134 HO138 BK101 BK102 HB; have HO_8 := n0_; have HO_9 := n1_; have HO134 := n2_; have HO138 := n3_; have BK101 := n4_; have BK102 := n5_; have HB := n6_; clear n0_ n1_ n2_ n3_ n4_ n5_ n6_; (try clear hb); (try clear hb2); (try clear hk); (try clear hi)
            refine hK.out _ _ ⟨(blk_cell BK102.out 0).trans rfl, (blk_cell BK102.out 1).trans rfl⟩ (fun hHeld => ?_)
            clear hK K
            refine nX (some 134) ?_
            refine pX (i := 9) (N := some 135) rfl rfl HT_ ?_
            refine pX (i := 10) (N := some 136) rfl rfl HT_ ?_
            refine pX (i := 11) (N := some 137) rfl rfl HT_ ?_
            refine pX (i := 12) (N := some 6) rfl rfl HT_ ?_
            refine done_ (done_of HT_.out (by kernel_rfl)) ?_
            try go_wp2
            go_ret
            exact ⟨by first | rfl | (simp [errW_none, errW_some] <;> rfl) | (simp [*, errW_none, errW_some] <;> rfl), by repeat (first | (with_reducible first | exact HB.out | apply below_alloc | apply pw_below_drewN | apply below_drew1 | refine below_set ?_ GE101.out | refine below_set ?_ GE102.out) | exact HB.out)⟩
           ·replace c120 := Bool.eq_false_iff.mpr c120
            subst c120
            have H1 : (some false) = some r := by rw [if_neg (show ¬ (false = true) by decide)] at H; exact H
            clear H
            have H := H1
            clear H1
            exact absurd ((Option.some.inj H).trans HT.out) (by decide)
 ·replace c5 := Bool.eq_false_iff.mpr c5
  subst c5
  have H1 : (some false) = some r := by rw [if_neg (show ¬ (false = true) by decide)] at H; exact H
  clear H
  have H := H1
  clear H1
  exact absurd ((Option.some.inj H).trans HT.out) (by decide)
/-- THE ONE PURE STATEMENT of parolelaw37_OddsMatchesReference. -/
def parolelaw37_OddsMatchesReference.Pure : Prop := ∀ (l0 : List (S71)) (l1_0 : List (S96)) (l1_1 : List (S96)) (a2_0 : Int) (a2_1 : Int), (l0.length ≤ maxLen ∧ ∀ x169 ∈ l0, ((Lit.int .i64 x169.f0).wf = true ∧ (Lit.int .i64 x169.f1).wf = true ∧ (Lit.int .i64 x169.f2).wf = true)) → ((l1_0.length ≤ maxLen ∧ ∀ x170 ∈ l1_0, ((Lit.int .u8 x170.f0).wf = true ∧ (Lit.int .u8 x170.f1).wf = true ∧ (Lit.int .u16 x170.f2).wf = true ∧ (Lit.int .u16 x170.f3).wf = true)) ∧ (l1_1.length ≤ maxLen ∧ ∀ x171 ∈ l1_1, ((Lit.int .u8 x171.f0).wf = true ∧ (Lit.int .u8 x171.f1).wf = true ∧ (Lit.int .u16 x171.f2).wf = true ∧ (Lit.int .u16 x171.f3).wf = true))) → ((Lit.int .i64 a2_0).wf = true ∧ (Lit.int .i64 a2_1).wf = true) → ∃ k, parolelaw37_OddsMatchesReference.f k l0 l1_0 l1_1 a2_0 a2_1 = some true
end Go.Proofs.Ytohnkcmbogcfhaa.P

/- A part of the claim FieldMatchesReference: lemmas, printed functions with their contracts, plain laws. -/
import Derived.Test.YtfdoncgljohndaacFieldMatchesReference8
set_option linter.unusedVariables false
set_option linter.unusedSimpArgs false
namespace Go.Proofs.Ytfdoncgljohndaa.P
open Go.Proofs.YtfdoncgljohndaaH Go.RowKit Go.Proofs.YtfdoncgljohndaaW.PrintWords Go.Proofs.YtfdoncgljohndaaW.PrintLast Go.Proofs.YtfdoncgljohndaaW.PrintMore
attribute [local go_sem] max2_int min2_int max_two min_two max_three min_three max_four min_four   -- for this text's walks alone
attribute [local go_sem] Go.Proofs.YtfdoncgljohndaaH.cell_set_map
attribute [local go_sem high] eqA28 eqA40 eqA45
mutual
def parolelaw32_FieldMatchesReference.j0 : Nat → Bool → List Int → List (S28) → Int → Int → Int → Int → Option (Bool)
 | 0, _, _, _, _, _, _, _ => none
 | k + 1, x7, x8, x9, x10, x103000, x103001, x103002 => parolelaw32_FieldMatchesReference.l0 k x7 x8 x9 x10 0 x103000 x103001 x103002
def parolelaw32_FieldMatchesReference.l0 : Nat → Bool → List Int → List (S28) → Int → Int → Int → Int → Int → Option (Bool)
 | 0, _, _, _, _, _, _, _, _ => none
 | k + 1, x7, x8, x9, x10, x11, x103000, x103001, x103002 => if x11 < (x9.length : Int) then (if 0 ≤ x11 then ((field_Tag.f k (IntKind.u64.wrap (x103002)) ((rd_T28 x9 x11).f0) ((rd_T28 x9 x11).f1) ((rd_T28 x9 x11).f2) ((rd_T28 x9 x11).f3) ((rd_T28 x9 x11).f4) ((rd_T28 x9 x11).f5) ((rd_T28 x9 x11).f6)).bind fun t136 => ((paroleref32_Tag.f k (IntKind.u64.wrap (x103002)) ((rd_T28 x9 x11).f0) ((rd_T28 x9 x11).f1) ((rd_T28 x9 x11).f2) ((rd_T28 x9 x11).f3) ((rd_T28 x9 x11).f4) ((rd_T28 x9 x11).f5) ((rd_T28 x9 x11).f6)).bind fun t138 => (if t136 = t138 then ((field_Sign.f k (IntKind.u64.wrap (x103002)) ((rd_T28 x9 x11).f0) ((rd_T28 x9 x11).f1) ((rd_T28 x9 x11).f2) ((rd_T28 x9 x11).f3) ((rd_T28 x9 x11).f4) ((rd_T28 x9 x11).f5) ((rd_T28 x9 x11).f6)).bind fun bt140 => ((paroleref32_Sign.f k (IntKind.u64.wrap (x103002)) ((rd_T28 x9 x11).f0) ((rd_T28 x9 x11).f1) ((rd_T28 x9 x11).f2) ((rd_T28 x9 x11).f3) ((rd_T28 x9 x11).f4) ((rd_T28 x9 x11).f5) ((rd_T28 x9 x11).f6)).bind fun bt148 => (if (!(bt140.1 == bt148.1) || (!(bt140.2.1 == bt148.2.1) || (!(bt140.2.2.1 == bt148.2.2.1) || (!(bt140.2.2.2.1 == bt148.2.2.2.1) || (!(bt140.2.2.2.2.1 == bt148.2.2.2.2.1) || (!(bt140.2.2.2.2.2.1 == bt148.2.2.2.2.2.1) || (!(bt140.2.2.2.2.2.2 == bt148.2.2.2.2.2.2)))))))) = true then (some false) else ((field_Right.f k x8 ((rd_T28 x9 x11).f0) ((rd_T28 x9 x11).f1) ((rd_T28 x9 x11).f2) ((rd_T28 x9 x11).f3) ((rd_T28 x9 x11).f4) ((rd_T28 x9 x11).f5) ((rd_T28 x9 x11).f6)).bind fun t156 => ((paroleref32_Right.f k x8 ((rd_T28 x9 x11).f0) ((rd_T28 x9 x11).f1) ((rd_T28 x9 x11).f2) ((rd_T28 x9 x11).f3) ((rd_T28 x9 x11).f4) ((rd_T28 x9 x11).f5) ((rd_T28 x9 x11).f6)).bind fun t158 => (if t156 = t158 then (parolelaw32_FieldMatchesReference.l0 k x7 x8 x9 x10 (wrap64 (x11 + 1)) x103000 x103001 x103002) else (some false))))))) else (some false)))) else (none)) else (if x7 = true then ((field_Gather.f k x8 x9 x10).bind fun bt160 => ((paroleref32_Gather.f k x8 x9 x10).bind fun bt166 => (if (bt160.1 == bt166.1 && (bt160.2.1 == bt166.2.1 && (bt160.2.2.1 == bt166.2.2.1 && (bt160.2.2.2.1 == bt166.2.2.2.1 && (bt160.2.2.2.2.1 == bt166.2.2.2.2.1 && (bt160.2.2.2.2.2 == bt166.2.2.2.2.2)))))) = true then ((field_Gather.f k x8 x9 x103002).bind fun bt172 => ((paroleref32_Gather.f k x8 x9 x103002).bind fun bt178 => (if (bt172.1 == bt178.1 && (bt172.2.1 == bt178.2.1 && (bt172.2.2.1 == bt178.2.2.1 && (bt172.2.2.2.1 == bt178.2.2.2.1 && (bt172.2.2.2.2.1 == bt178.2.2.2.2.1 && (bt172.2.2.2.2.2 == bt178.2.2.2.2.2)))))) = true then ((parolelaw32_bound.f k 0 0 (mx (Go.bits .and .i64 x103000 1099511627775) (Go.bits .and .i64 x103001 1099511627775)) (mn (Go.bits .and .i64 x103000 1099511627775) (Go.bits .and .i64 x103001 1099511627775)) (Go.bits .and .i64 x103002 1) 0).bind fun bt184 => ((paroleref32_BoundIn.f k 0 0 (mx (Go.bits .and .i64 x103000 1099511627775) (Go.bits .and .i64 x103001 1099511627775)) (mn (Go.bits .and .i64 x103000 1099511627775) (Go.bits .and .i64 x103001 1099511627775)) (Go.bits .and .i64 x103002 1) 0).bind fun bt187 => (some ((bt184.1 == bt187.1 && (bt184.2.1 == bt187.2.1)) && (bt184.2.2 == bt187.2.2))))) else (some false)))) else (some false)))) else (some false))
end
def parolelaw32_FieldMatchesReference.f (k : Nat) (a0_0 : Int) (l0_1 : List (S58)) (a0_2 : Int) (a1_0 : Int) (a1_1 : Int) (a1_2 : Int) (a2_0 : Int) (a2_1 : Int) (a2_2 : Int) (a2_3 : Int) (a2_4 : Int) (a2_5 : Int) (a2_6 : Int) : Option (Bool) := (parolelaw32_examples.f).bind fun t104 => (if t104 = true then ((parolelaw32_made.f k a0_0 l0_1 a0_2).bind fun bt105 => (if 0 < (bt105.1.length : Int) then ((field_Sign.f k (rd bt105.1 0) a2_0 a2_1 a2_2 a2_3 a2_4 a2_5 a2_6).bind fun bt113 => ((some (([(⟨a2_0, a2_1, a2_2, a2_3, a2_4, a2_5, a2_6⟩ : S28), (⟨bt113.1, bt113.2.1, bt113.2.2.1, bt113.2.2.2.1, bt113.2.2.2.2.1, bt113.2.2.2.2.2.1, bt113.2.2.2.2.2.2⟩ : S28)] : List (S28)) : List (S28))).bind fun y120 => (if bt105.2.1.length + y120.length < 2513169434916 then ((some (bt105.2.1 ++ y120 : List (S28))).bind fun y123 => (if (y123.length : Int) > 2 then (if 0 < (y123.length : Int) then ((parolelaw32_changed.f ((rd_T28 y123 0).f0) ((rd_T28 y123 0).f1) ((rd_T28 y123 0).f2) ((rd_T28 y123 0).f3) ((rd_T28 y123 0).f4) ((rd_T28 y123 0).f5) ((rd_T28 y123 0).f6) ((a1_0) % 256) a1_1).bind fun bt127 => (parolelaw32_FieldMatchesReference.j0 k t104 bt105.1 (y123.set (0 : Int).toNat (⟨bt127.1, bt127.2.1, bt127.2.2.1, bt127.2.2.2.1, bt127.2.2.2.2.1, bt127.2.2.2.2.2.1, bt127.2.2.2.2.2.2⟩ : S28)) bt105.2.2 a1_0 a1_1 a1_2)) else (none)) else (parolelaw32_FieldMatchesReference.j0 k t104 bt105.1 y123 bt105.2.2 a1_0 a1_1 a1_2))) else (none)))) else (none))) else (some false))
def parolelaw32_FieldMatchesReference.T5 : Bool × List (List Nat × List Nat) := (true, [([], []), ([], []), ([], []), ([2], [2]), ([3], [3]), ([], []), ([4, 5], [4, 5]), ([1, 6], [1, 6]), ([0, 7, 6], [0, 7]), ([8, 8, 0, 1, 2, 3, 4, 5, 6, 7, 8], [0, 8])])
def parolelaw32_FieldMatchesReference.B5 : List Nat := [0, 0, 0, 4, 12, 0, 60, 126, 255, 511]
theorem parolelaw32_FieldMatchesReference.tab5 : rtab .any (opsOf Try.f3 5) = parolelaw32_FieldMatchesReference.T5 := by kernel_rfl
theorem parolelaw32_FieldMatchesReference.bits5 : waitsOk parolelaw32_FieldMatchesReference.T5.2 parolelaw32_FieldMatchesReference.B5 = true := by kernel_rfl
def parolelaw32_FieldMatchesReference.T7 : Bool × List (List Nat × List Nat) := (true, [([], []), ([], []), ([1], [1]), ([2], [2]), ([], []), ([4], [4]), ([5], [5]), ([], []), ([7], [7]), ([3, 6, 8], [3, 6, 8]), ([0, 0, 1, 2, 3, 4, 5, 6, 7, 8, 9], [0]), ([10, 9, 9, 0, 1, 2, 3, 4, 5, 6, 7, 8, 9], [9, 10])])
def parolelaw32_FieldMatchesReference.B7 : List Nat := [0, 0, 2, 6, 0, 16, 48, 0, 128, 510, 1023, 2047]
theorem parolelaw32_FieldMatchesReference.tab7 : rtab .any (opsOf Try.f3 7) = parolelaw32_FieldMatchesReference.T7 := by kernel_rfl
theorem parolelaw32_FieldMatchesReference.bits7 : waitsOk parolelaw32_FieldMatchesReference.T7.2 parolelaw32_FieldMatchesReference.B7 = true := by kernel_rfl
def parolelaw32_FieldMatchesReference.T11 : Bool × List (List Nat × List Nat) := (true, [([], []), ([0], [0]), ([1], [1]), ([], []), ([], []), ([3, 4], [3, 4]), ([5], [5]), ([2, 6], [2, 6]), ([], []), ([8], [8]), ([9], [9]), ([], []), ([], []), ([11, 12], [11, 12]), ([13], [13]), ([10, 14, 7], [10, 14]), ([7, 15], [7, 15]), ([16, 15], [16]), ([17], [17]), ([18, 17], [17, 18]), ([19, 17], [17, 19]), ([17], [17]), ([17], [17]), ([21, 22, 17], [17, 21, 22]), ([23, 17], [17, 23]), ([20, 24, 17, 17], [17, 20, 24]), ([17], [17]), ([26, 17], [17, 26]), ([27, 17], [17, 27]), ([17], [17]), ([17], [17]), ([29, 30, 17], [17, 29, 30]), ([31, 17], [17, 31]), ([28, 32, 25, 17], [17, 28, 32]), ([25, 33, 17], [17, 25, 33]), ([17, 34], [17, 34]), ([35, 33], [35]), ([36], [36]), ([36], [36]), ([36], [36]), ([38, 39, 36], [36, 38, 39]), ([40, 36], [36, 40]), ([37, 41, 36, 36], [36, 37, 41]), ([36], [36]), ([36], [36]), ([36], [36]), ([44, 45, 36], [36, 44, 45]), ([46, 36], [36, 46]), ([43, 47, 42, 36], [36, 43, 47]), ([42, 48, 36], [36, 42, 48]), ([36, 49], [36, 49])])
def parolelaw32_FieldMatchesReference.B11 : List Nat := [0, 1, 3, 0, 0, 24, 56, 127, 0, 256, 768, 0, 0, 6144, 14336, 32767, 65535, 131071, 262143, 524287, 1048575, 262143, 262143, 6553599, 14942207, 33554431, 262143, 67371007, 201588735, 262143, 262143, 1610874879, 3758358527, 8589934591, 17179869183, 34359738367, 68719476735, 137438953471, 137438953471, 137438953471, 962072674303, 2061584302079, 4398046511103, 137438953471, 137438953471, 137438953471, 52913997086719, 123282741264383, 281474976710655, 562949953421311, 1125899906842623]
theorem parolelaw32_FieldMatchesReference.tab11 : rtab .any (opsOf Try.f3 11) = parolelaw32_FieldMatchesReference.T11 := by kernel_rfl
theorem parolelaw32_FieldMatchesReference.bits11 : waitsOk parolelaw32_FieldMatchesReference.T11.2 parolelaw32_FieldMatchesReference.B11 = true := by kernel_rfl
def parolelaw32_FieldMatchesReference.T14 : Bool × List (List Nat × List Nat) := (true, [([], []), ([0], [0]), ([1], [1]), ([1], [1]), ([1], [1]), ([2, 3, 4, 1, 1], [1, 2, 3, 4]), ([1], [1]), ([1], [1]), ([1], [1]), ([6, 7, 8, 5, 1], [1, 6, 7, 8]), ([5, 9, 1], [1, 5, 9]), ([1, 10], [1, 10]), ([11, 9], [11]), ([12], [12]), ([12], [12]), ([12], [12]), ([15, 12], [12, 15]), ([13, 14, 16, 12, 12], [12, 13, 14, 16]), ([12], [12]), ([12], [12]), ([12], [12]), ([20, 12], [12, 20]), ([18, 19, 21, 17, 12], [12, 18, 19, 21]), ([17, 22, 12], [12, 17, 22]), ([12, 23], [12, 23]), ([24, 22], [24]), ([25], [25]), ([26, 25, 25], [25, 26]), ([25], [25]), ([28, 27, 25], [25, 28]), ([27, 29, 25], [25, 27, 29]), ([25, 30], [25, 30]), ([31, 29, 0, 1, 2, 3, 4, 5, 6, 7, 8, 9, 10, 11, 12, 13, 14, 15, 16, 17, 18, 19, 20, 21, 22, 23, 24, 25, 26, 27, 28, 29, 30, 31], [31])])
def parolelaw32_FieldMatchesReference.B14 : List Nat := [0, 1, 3, 3, 3, 31, 3, 3, 3, 511, 1023, 2047, 4095, 8191, 8191, 8191, 40959, 131071, 8191, 8191, 8191, 1056767, 4194303, 8388607, 16777215, 33554431, 67108863, 134217727, 67108863, 536870911, 1073741823, 2147483647, 4294967295]
theorem parolelaw32_FieldMatchesReference.tab14 : rtab .any (opsOf Try.f3 14) = parolelaw32_FieldMatchesReference.T14 := by kernel_rfl
theorem parolelaw32_FieldMatchesReference.bits14 : waitsOk parolelaw32_FieldMatchesReference.T14.2 parolelaw32_FieldMatchesReference.B14 = true := by kernel_rfl
set_option maxHeartbeats 40000000 in
set_option maxRecDepth 100000 in
theorem parolelaw32_FieldMatchesReference.calls (k : Nat) (a0_0 : Int) (A0_1 : Option Addr) (c0_1 : Nat) (l0_1 : List (S58)) (a0_2 : Int) (a1_0 : Int) (a1_1 : Int) (a1_2 : Int) (a2_0 : Int) (a2_1 : Int) (a2_2 : Int) (a2_3 : Int) (a2_4 : Int) (a2_5 : Int) (a2_6 : Int) (r : Bool) (w : World) (hr0_1 : Kd.C k58 w A0_1 l0_1.length l0_1) (hc0_1 : l0_1.length ≤ c0_1) (hT : r = true) (h : parolelaw32_FieldMatchesReference.f k a0_0 l0_1 a0_2 a1_0 a1_1 a1_2 a2_0 a2_1 a2_2 a2_3 a2_4 a2_5 a2_6 = some r) :
  Calls Try.prog 3 #[.agg #[.int .u8 a0_0, .slice A0_1 l0_1.length c0_1, .int .u8 a0_2], .agg #[.int .i64 a1_0, .int .i64 a1_1, .int .i64 a1_2], .agg #[.int .i64 a2_0, .int .i64 a2_1, .int .i64 a2_2, .int .i64 a2_3, .int .i64 a2_4, .int .i64 a2_5, .int .u64 a2_6]] w fun e w' => e = .returned (.bool r) ∧ Below w.heap.size w w' := by
 have hu24 := Try.underlying24; have hu25 := Try.underlying25; have hu28 := Try.underlying28; have hu40 := Try.underlying40; have HR0_1 := aM hr0_1; have HC0_1 := aM hc0_1; clear hr0_1 hc0_1; have HB := aM (Below.refl w.heap.size w); have HT := aM hT; clear hT
 have H : ((parolelaw32_examples.f).bind fun t104 => (if t104 = true then ((parolelaw32_made.f k a0_0 l0_1 a0_2).bind fun bt105 => (if 0 < (bt105.1.length : Int) then ((field_Sign.f k (rd bt105.1 0) a2_0 a2_1 a2_2 a2_3 a2_4 a2_5 a2_6).bind fun bt113 => ((some (([(⟨a2_0, a2_1, a2_2, a2_3, a2_4, a2_5, a2_6⟩ : S28), (⟨bt113.1, bt113.2.1, bt113.2.2.1, bt113.2.2.2.1, bt113.2.2.2.2.1, bt113.2.2.2.2.2.1, bt113.2.2.2.2.2.2⟩ : S28)] : List (S28)) : List (S28))).bind fun y120 => (if bt105.2.1.length + y120.length < 2513169434916 then ((some (bt105.2.1 ++ y120 : List (S28))).bind fun y123 => (if (y123.length : Int) > 2 then (if 0 < (y123.length : Int) then ((parolelaw32_changed.f ((rd_T28 y123 0).f0) ((rd_T28 y123 0).f1) ((rd_T28 y123 0).f2) ((rd_T28 y123 0).f3) ((rd_T28 y123 0).f4) ((rd_T28 y123 0).f5) ((rd_T28 y123 0).f6) ((a1_0) % 256) a1_1).bind fun bt127 => (parolelaw32_FieldMatchesReference.j0 k t104 bt105.1 (y123.set (0 : Int).toNat (⟨bt127.1, bt127.2.1, bt127.2.2.1, bt127.2.2.2.1, bt127.2.2.2.2.1, bt127.2.2.2.2.2.1, bt127.2.2.2.2.2.2⟩ : S28)) bt105.2.2 a1_0 a1_1 a1_2)) else (none)) else (parolelaw32_FieldMatchesReference.j0 k t104 bt105.1 y123 bt105.2.2 a1_0 a1_1 a1_2))) else (none)))) else (none))) else (some false))) = some r := h
 clear h; replace H := Option.bind_eq_some_iff.mp H
 obtain ⟨t104, A40, H⟩ := H
 replace H : (if t104 = true then ((parolelaw32_made.f k a0_0 l0_1 a0_2).bind fun bt105 => (if 0 < (bt105.1.length : Int) then ((field_Sign.f k (rd bt105.1 0) a2_0 a2_1 a2_2 a2_3 a2_4 a2_5 a2_6).bind fun bt113 => ((some (([(⟨a2_0, a2_1, a2_2, a2_3, a2_4, a2_5, a2_6⟩ : S28), (⟨bt113.1, bt113.2.1, bt113.2.2.1, bt113.2.2.2.1, bt113.2.2.2.2.1, bt113.2.2.2.2.2.1, bt113.2.2.2.2.2.2⟩ : S28)] : List (S28)) : List (S28))).bind fun y120 => (if bt105.2.1.length + y120.length < 2513169434916 then ((some (bt105.2.1 ++ y120 : List (S28))).bind fun y123 => (if (y123.length : Int) > 2 then (if 0 < (y123.length : Int) then ((parolelaw32_changed.f ((rd_T28 y123 0).f0) ((rd_T28 y123 0).f1) ((rd_T28 y123 0).f2) ((rd_T28 y123 0).f3) ((rd_T28 y123 0).f4) ((rd_T28 y123 0).f5) ((rd_T28 y123 0).f6) ((a1_0) % 256) a1_1).bind fun bt127 => (parolelaw32_FieldMatchesReference.j0 k t104 bt105.1 (y123.set (0 : Int).toNat (⟨bt127.1, bt127.2.1, bt127.2.2.1, bt127.2.2.2.1, bt127.2.2.2.2.1, bt127.2.2.2.2.2.1, bt127.2.2.2.2.2.2⟩ : S28)) bt105.2.2 a1_0 a1_1 a1_2)) else (none)) else (parolelaw32_FieldMatchesReference.j0 k t104 bt105.1 y123 bt105.2.2 a1_0 a1_1 a1_2))) else (none)))) else (none))) else (some false)) = some r := H
 have A4 := aM A40; clear A40
 by_cases c5 : t104 = true
 rotate_left
 ·replace c5 := Bool.eq_false_iff.mpr c5
  subst c5
  have H1 : (some false) = some r := by rw [if_neg (show ¬ (false = true) by decide)] at H; exact H
  clear H; have H := H1; clear H1
  exact absurd ((Option.some.inj H).trans HT.out) (by decide)
 subst c5
 have H1 : ((parolelaw32_made.f k a0_0 l0_1 a0_2).bind fun bt105 => (if 0 < (bt105.1.length : Int) then ((field_Sign.f k (rd bt105.1 0) a2_0 a2_1 a2_2 a2_3 a2_4 a2_5 a2_6).bind fun bt113 => ((some (([(⟨a2_0, a2_1, a2_2, a2_3, a2_4, a2_5, a2_6⟩ : S28), (⟨bt113.1, bt113.2.1, bt113.2.2.1, bt113.2.2.2.1, bt113.2.2.2.2.1, bt113.2.2.2.2.2.1, bt113.2.2.2.2.2.2⟩ : S28)] : List (S28)) : List (S28))).bind fun y120 => (if bt105.2.1.length + y120.length < 2513169434916 then ((some (bt105.2.1 ++ y120 : List (S28))).bind fun y123 => (if (y123.length : Int) > 2 then (if 0 < (y123.length : Int) then ((parolelaw32_changed.f ((rd_T28 y123 0).f0) ((rd_T28 y123 0).f1) ((rd_T28 y123 0).f2) ((rd_T28 y123 0).f3) ((rd_T28 y123 0).f4) ((rd_T28 y123 0).f5) ((rd_T28 y123 0).f6) ((a1_0) % 256) a1_1).bind fun bt127 => (parolelaw32_FieldMatchesReference.j0 k true bt105.1 (y123.set (0 : Int).toNat (⟨bt127.1, bt127.2.1, bt127.2.2.1, bt127.2.2.2.1, bt127.2.2.2.2.1, bt127.2.2.2.2.2.1, bt127.2.2.2.2.2.2⟩ : S28)) bt105.2.2 a1_0 a1_1 a1_2)) else (none)) else (parolelaw32_FieldMatchesReference.j0 k true bt105.1 y123 bt105.2.2 a1_0 a1_1 a1_2))) else (none)))) else (none))) = some r := by rw [if_pos rfl] at H; exact H
 clear H; have H := H1; clear H1; replace H := Option.bind_eq_some_iff.mp H
 obtain ⟨⟨t105, t108, t111⟩, A60, H⟩ := H
 replace H : (if 0 < (t105.length : Int) then ((field_Sign.f k (rd t105 0) a2_0 a2_1 a2_2 a2_3 a2_4 a2_5 a2_6).bind fun bt113 => ((some (([(⟨a2_0, a2_1, a2_2, a2_3, a2_4, a2_5, a2_6⟩ : S28), (⟨bt113.1, bt113.2.1, bt113.2.2.1, bt113.2.2.2.1, bt113.2.2.2.2.1, bt113.2.2.2.2.2.1, bt113.2.2.2.2.2.2⟩ : S28)] : List (S28)) : List (S28))).bind fun y120 => (if t108.length + y120.length < 2513169434916 then ((some (t108 ++ y120 : List (S28))).bind fun y123 => (if (y123.length : Int) > 2 then (if 0 < (y123.length : Int) then ((parolelaw32_changed.f ((rd_T28 y123 0).f0) ((rd_T28 y123 0).f1) ((rd_T28 y123 0).f2) ((rd_T28 y123 0).f3) ((rd_T28 y123 0).f4) ((rd_T28 y123 0).f5) ((rd_T28 y123 0).f6) ((a1_0) % 256) a1_1).bind fun bt127 => (parolelaw32_FieldMatchesReference.j0 k true t105 (y123.set (0 : Int).toNat (⟨bt127.1, bt127.2.1, bt127.2.2.1, bt127.2.2.2.1, bt127.2.2.2.2.1, bt127.2.2.2.2.2.1, bt127.2.2.2.2.2.2⟩ : S28)) t111 a1_0 a1_1 a1_2)) else (none)) else (parolelaw32_FieldMatchesReference.j0 k true t105 y123 t111 a1_0 a1_1 a1_2))) else (none)))) else (none)) = some r := H
 have A6 := aM A60; clear A60
 by_cases c7 : 0 < (t105.length : Int)
 rotate_left
 ·rw [if_neg c7] at H
  exact absurd H (by simp)
 rw [if_pos c7] at H
 have c7b0 : decide (0 < (t105.length : Int)) = true := decide_eq_true c7
 have c7b1 : decide (0 < t105.length) = true := decide_eq_true (by omega)
 clear c7; replace H := Option.bind_eq_some_iff.mp H
 obtain ⟨⟨t113, t114, t115, t116, t117, t118, t119⟩, A80, H⟩ := H
 replace H : ((some (([(⟨a2_0, a2_1, a2_2, a2_3, a2_4, a2_5, a2_6⟩ : S28), (⟨t113, t114, t115, t116, t117, t118, t119⟩ : S28)] : List (S28)) : List (S28))).bind fun y120 => (if t108.length + y120.length < 2513169434916 then ((some (t108 ++ y120 : List (S28))).bind fun y123 => (if (y123.length : Int) > 2 then (if 0 < (y123.length : Int) then ((parolelaw32_changed.f ((rd_T28 y123 0).f0) ((rd_T28 y123 0).f1) ((rd_T28 y123 0).f2) ((rd_T28 y123 0).f3) ((rd_T28 y123 0).f4) ((rd_T28 y123 0).f5) ((rd_T28 y123 0).f6) ((a1_0) % 256) a1_1).bind fun bt127 => (parolelaw32_FieldMatchesReference.j0 k true t105 (y123.set (0 : Int).toNat (⟨bt127.1, bt127.2.1, bt127.2.2.1, bt127.2.2.2.1, bt127.2.2.2.2.1, bt127.2.2.2.2.2.1, bt127.2.2.2.2.2.2⟩ : S28)) t111 a1_0 a1_1 a1_2)) else (none)) else (parolelaw32_FieldMatchesReference.j0 k true t105 y123 t111 a1_0 a1_1 a1_2))) else (none))) = some r := H
 have A8 := aM A80; clear A80
 obtain ⟨y120, hy120⟩ : ∃ y_ : List (S28), y_ = (([(⟨a2_0, a2_1, a2_2, a2_3, a2_4, a2_5, a2_6⟩ : S28), (⟨t113, t114, t115, t116, t117, t118, t119⟩ : S28)] : List (S28))) := ⟨_, rfl⟩
 replace H : (if t108.length + y120.length < 2513169434916 then ((some (t108 ++ y120 : List (S28))).bind fun y123 => (if (y123.length : Int) > 2 then (if 0 < (y123.length : Int) then ((parolelaw32_changed.f ((rd_T28 y123 0).f0) ((rd_T28 y123 0).f1) ((rd_T28 y123 0).f2) ((rd_T28 y123 0).f3) ((rd_T28 y123 0).f4) ((rd_T28 y123 0).f5) ((rd_T28 y123 0).f6) ((a1_0) % 256) a1_1).bind fun bt127 => (parolelaw32_FieldMatchesReference.j0 k true t105 (y123.set (0 : Int).toNat (⟨bt127.1, bt127.2.1, bt127.2.2.1, bt127.2.2.2.1, bt127.2.2.2.2.1, bt127.2.2.2.2.2.1, bt127.2.2.2.2.2.2⟩ : S28)) t111 a1_0 a1_1 a1_2)) else (none)) else (parolelaw32_FieldMatchesReference.j0 k true t105 y123 t111 a1_0 a1_1 a1_2))) else (none)) = some r := by first | (rw [hy120]; with_reducible exact H) | (have H2_ := (Option.bind_some _ _).symm.trans H; rw [hy120]; with_reducible exact H2_) | (have H2_ := (Option.bind_some _ _).symm.trans H; with_reducible exact H2_) | with_reducible exact H | (rw [hy120]; exact H) | exact H
 have Ny120 := aM hy120; clear hy120
 by_cases c9 : t108.length + y120.length < 2513169434916
 rotate_left
 ·rw [if_neg c9] at H
  exact absurd H (by simp)
 rw [if_pos c9] at H
 have LMc9 := aM c9; clear c9
 obtain ⟨y123, hy123⟩ : ∃ y_ : List (S28), y_ = (t108 ++ y120) := ⟨_, rfl⟩
 replace H : (if (y123.length : Int) > 2 then (if 0 < (y123.length : Int) then ((parolelaw32_changed.f ((rd_T28 y123 0).f0) ((rd_T28 y123 0).f1) ((rd_T28 y123 0).f2) ((rd_T28 y123 0).f3) ((rd_T28 y123 0).f4) ((rd_T28 y123 0).f5) ((rd_T28 y123 0).f6) ((a1_0) % 256) a1_1).bind fun bt127 => (parolelaw32_FieldMatchesReference.j0 k true t105 (y123.set (0 : Int).toNat (⟨bt127.1, bt127.2.1, bt127.2.2.1, bt127.2.2.2.1, bt127.2.2.2.2.1, bt127.2.2.2.2.2.1, bt127.2.2.2.2.2.2⟩ : S28)) t111 a1_0 a1_1 a1_2)) else (none)) else (parolelaw32_FieldMatchesReference.j0 k true t105 y123 t111 a1_0 a1_1 a1_2)) = some r := by first | (rw [hy123]; with_reducible exact H) | (have H2_ := (Option.bind_some _ _).symm.trans H; rw [hy123]; with_reducible exact H2_) | (have H2_ := (Option.bind_some _ _).symm.trans H; with_reducible exact H2_) | with_reducible exact H | (rw [hy123]; exact H) | exact H
 have Ny123 := aM hy123; clear hy123; have HC10 := aM H; clear H
 go_enter Try.func3, Try.ntmps3
 try go_wp2_with (first | ((with_reducible refine gate_dst (N := 3) rfl ?_); refine bE (N := 3) (cs := #[.int .u8 a0_0, .slice A0_1 l0_1.length c0_1, .int .u8 a0_2]) (t := 24) ?_; intro gb101 hg w11 hbox hb; have BK101 := aM (hbox); have GW101 := gE hg HB; have GE101 := gE hg HB; replace HB := sB HB hb; clear hb hbox hg) | ((with_reducible refine gate_dst (N := 4) rfl ?_); refine bE (N := 4) (cs := #[.int .i64 a1_0, .int .i64 a1_1, .int .i64 a1_2]) (t := 25) ?_; intro gb102 hg w12 hbox hb; have BK102 := aM (hbox); have GW102 := gE hg HB; have GE102 := gE hg HB; have NB101_102 := nL hg BK101; replace BK101 := bB BK101 hb; replace HB := sB HB hb; clear hb hbox hg) | ((with_reducible refine gate_dst (N := 5) rfl ?_); refine bE (N := 5) (cs := #[.int .i64 a2_0, .int .i64 a2_1, .int .i64 a2_2, .int .i64 a2_3, .int .i64 a2_4, .int .i64 a2_5, .int .u64 a2_6]) (t := 28) ?_; intro gb103 hg w13 hbox hb; have BK103 := aM (hbox); have GW103 := gE hg HB; have GE103 := gE hg HB; have NB101_103 := nL hg BK101; have NB102_103 := nL hg BK102; replace BK101 := bB BK101 hb; replace BK102 := bB BK102 hb; replace HB := sB HB hb; clear hb hbox hg) | ((with_reducible refine gate_callee (f := 10) rfl ?_); refine gL (some 13) Try.func10 #[] ?_; (with_reducible refine (parolelaw32_examples.calls  true _ A4.out).mono ?_); rintro e w14 ⟨rfl, hb⟩; refine ⟨_, rfl, ?_⟩; replace BK101 := bB BK101 hb; replace BK102 := bB BK102 hb; replace BK103 := bB BK103 hb; replace HB := sB HB hb; (try clear hb); have hnb15 := NB101_102.out; have hnc15 := NB101_102.out.symm; have hnb16 := NB101_103.out; have hnc16 := NB101_103.out.symm; obtain ⟨hcz17_0, hcz17_1, hcz17_2, hfz17_0, hfz17_1, hfz17_2⟩ := cZ3 BK101) | ((with_reducible refine gate_callee (f := 11) rfl ?_); refine gL (some 18) Try.func11 #[.agg #[.int .u8 a0_0, .slice A0_1 l0_1.length c0_1, .int .u8 a0_2]] ?_; (with_reducible refine (parolelaw32_made.calls k a0_0 _ _ l0_1 a0_2 t105 t108 t111 _ ?side1 ?side2 A6.out).mono ?_); (case side1 => exact cC HR0_1 HB); (case side2 => exact HC0_1.out); rintro e w18 ⟨v106, v109, rfl, ho0, ho1, hb⟩; refine ⟨_, rfl, ?_⟩; have HO107 := rL (n := 0) ho0 HB; have HO110 := aM (Kd.R_lower (Kd.R_newB ho1 (g := gb103) (o := .cells #[.int .i64 a2_0, .int .i64 a2_1, .int .i64 a2_2, .int .i64 a2_3, .int .i64 a2_4, .int .i64 a2_5, .int .u64 a2_6] 28 (0, 0)) (bD BK103)) (below_size (sD HB))); replace BK101 := bB BK101 hb; replace BK102 := bB BK102 hb; replace BK103 := bB BK103 hb; replace HB := sB HB hb; (try clear hb); (try clear ho0); (try clear ho1)))
 replace HO107 := aM (Kd.R_drew HO107.out); replace HO110 := aM (Kd.R_drew HO110.out); replace BK101 := aM (blk_drew BK101.out); replace BK102 := aM (blk_drew BK102.out); replace BK103 := aM (blk_drew BK103.out); replace HB := aM (below_drew1 HB.out)
 obtain ⟨Ao20, co20, eo20⟩ := Kd.R_slice HO107.out
 (first | subst eo20 | (injection eo20 with f1_ f2_ f3_; have f4_ := f1_.symm; have f5_ := f3_.symm; clear f1_ f2_ f3_; subst f4_; subst f5_))
 have p112 : 0 ≤ (0 : Int) := (by omega)
 have q112 : 0 < (t105.length : Int) := of_decide_eq_true (by first | (with_reducible assumption) | assumption)
 obtain ⟨ad112, e112, hx112_0⟩ := Kd.at_int (Kd.R_reads' HO107.out).2.2 0 p112 q112
 cases e112
 have qi112 : (0 < t105.length) = True := eq_true (by omega)
 (try rw [show ((0 : Int)).toNat = 0 from rfl] at hx112_0)
 (try rw [Addr.add_zero'] at hx112_0)
 replace p112 := eq_true p112; replace q112 := eq_true q112
 refine start_ (n := 10) (S := fun w' => w'.cell? ⟨gb103, 0, none⟩ = some (.int .i64 a2_0) ∧ w'.cell? ⟨gb103, 1, none⟩ = some (.int .i64 a2_1) ∧ w'.cell? ⟨gb103, 2, none⟩ = some (.int .i64 a2_2) ∧ w'.cell? ⟨gb103, 3, none⟩ = some (.int .i64 a2_3) ∧ w'.cell? ⟨gb103, 4, none⟩ = some (.int .i64 a2_4) ∧ w'.cell? ⟨gb103, 5, none⟩ = some (.int .i64 a2_5) ∧ w'.cell? ⟨gb103, 6, none⟩ = some (.int .u64 a2_6) ∧ w'.cell? ad112 = some (.int .u64 (rd t105 0))) (ds := [8]) #[false, false, false, false, false, false, false, false, false, false] (by kernel_rfl) rfl rfl ⟨cE BK103 0, cE BK103 1, cE BK103 2, cE BK103 3, cE BK103 4, cE BK103 5, cE BK103 6, hx112_0⟩ (fun hHeld => ?_); refine with_tabW parolelaw32_FieldMatchesReference.tab5 parolelaw32_FieldMatchesReference.bits5 (fun HT_ HW_ => ?_)
 generalize w18.drew = w19 at HO107 HO110 BK101 BK102 BK103 HB hx112_0 hHeld ⊢
 refine pX (i := 0) (N := some 22) rfl rfl HT_ ?_
 refine pX (i := 2) (N := some 24) rfl rfl HT_ ?_
 refine pX (i := 3) (N := some 25) rfl rfl HT_ ?_
 refine tX (i := 1) (N := some 23) rfl rfl HT_ HW_ hHeld (Or.inl ⟨by rfl, by rintro w' ⟨s0, s1, s2, s3, s4, s5, s6, s7⟩; go_simp; with_reducible rfl⟩) ?_
 refine tX (i := 4) (N := some 26) rfl rfl HT_ HW_ hHeld (Or.inl ⟨by rfl, by rintro w' ⟨s0, s1, s2, s3, s4, s5, s6, s7⟩; go_simp; with_reducible rfl⟩) ?_
 refine tX (i := 5) (N := some 27) rfl rfl HT_ HW_ hHeld (Or.inl ⟨by rfl, by rintro w' ⟨s0, s1, s2, s3, s4, s5, s6, s7⟩; go_simp; with_reducible rfl⟩) ?_
 refine oX (i := 6) (N := some 28) rfl rfl HT_ (fun K hK => ?_)
 refine gS Try.func12 #[.int .u64 (rd t105 0), .agg #[.int .i64 a2_0, .int .i64 a2_1, .int .i64 a2_2, .int .i64 a2_3, .int .i64 a2_4, .int .i64 a2_5, .int .u64 a2_6]] ?_
 with_reducible refine (field_Sign.calls k (rd t105 0) a2_0 a2_1 a2_2 a2_3 a2_4 a2_5 a2_6 t113 t114 t115 t116 t117 t118 t119 _ A8.out).mono ?_
 rintro e w21 ⟨rfl, hb⟩
 have HS7_ := (hb.cell (World.block_lt_of_cell? _ _ (hHeld.2.2.2.2.2.2.2))).trans (hHeld.2.2.2.2.2.2.2)
 refine ⟨_, rfl, ?_⟩
 replace HO107 := rB HO107 hb; replace HO110 := rB HO110 hb; replace BK101 := bB BK101 hb; replace BK102 := bB BK102 hb; replace BK103 := bB BK103 hb; replace HB := sB HB hb; (try clear hb); (try clear hb2); (try clear hk); (try clear hi)
 refine hK.out _ _ ⟨cE BK103 0, cE BK103 1, cE BK103 2, cE BK103 3, cE BK103 4, cE BK103 5, cE BK103 6, HS7_⟩ (fun hHeld => ?_)
 clear hK K
 refine nX (some 28) ?_
 refine oX (i := 7) (N := some 29) rfl rfl HT_ (fun K hK => ?_)
 refine Kd.R_lit_step k28 _ 28 ?hg (N := 29) ?hd (xs := ([(⟨a2_0, a2_1, a2_2, a2_3, a2_4, a2_5, a2_6⟩ : S28), (⟨t113, t114, t115, t116, t117, t118, t119⟩ : S28)] : List (S28))) (inner := [.int .i64 a2_0, .int .i64 a2_1, .int .i64 a2_2, .int .i64 a2_3, .int .i64 a2_4, .int .i64 a2_5, .int .u64 a2_6, .int .i64 t113, .int .i64 t114, .int .i64 t115, .int .i64 t116, .int .i64 t117, .int .i64 t118, .int .u64 t119]) (ok := fun _ => True) (okp := fun _ => True) ?hr ?hp (fun _ hk => hk) trivial (Below.refl _ _) (Nat.le_refl _) (by simp) ?_; (case hd => rfl); (case hg => rfl); (case hr => first | (go_simp; done) | (go_simp; rfl)); (case hp => exact (Reps.c7 (show Kd.M k28 _ _ _ (⟨a2_0, a2_1, a2_2, a2_3, a2_4, a2_5, a2_6⟩ : S28) [.int .i64 a2_0, .int .i64 a2_1, .int .i64 a2_2, .int .i64 a2_3, .int .i64 a2_4, .int .i64 a2_5, .int .u64 a2_6] from (k28_mkM _ _ _ (⟨a2_0, a2_1, a2_2, a2_3, a2_4, a2_5, a2_6⟩ : S28) )) (Reps.c7 (show Kd.M k28 _ _ _ (⟨t113, t114, t115, t116, t117, t118, t119⟩ : S28) [.int .i64 t113, .int .i64 t114, .int .i64 t115, .int .i64 t116, .int .i64 t117, .int .i64 t118, .int .u64 t119] from (k28_mkM _ _ _ (⟨t113, t114, t115, t116, t117, t118, t119⟩ : S28) )) (Reps.none _ _))))
 intro v121 w22 ho23 hb hg_ hnew_
 have HS7_ := (hb.cell (World.block_lt_of_cell? _ _ (hHeld.2.2.2.2.2.2.2))).trans (hHeld.2.2.2.2.2.2.2); clear hg_ hnew_
 (first | rw [← Ny120.out] at ho23 | (simp only [Int.reduceToNat] at ho23; rw [← Ny120.out] at ho23))
 have HO122 := aM (Kd.R_lower (Kd.R_newB (Kd.R_new' ho23 (Kd.R_lt (rD HO110))) (g := gb103) (o := .cells #[.int .i64 a2_0, .int .i64 a2_1, .int .i64 a2_2, .int .i64 a2_3, .int .i64 a2_4, .int .i64 a2_5, .int .u64 a2_6] 28 (0, 0)) (bD BK103)) (below_size (sD HB))); replace HO107 := rB HO107 hb; replace HO110 := aM (Kd.R_elder' (rD HO110) (Kd.R_base ho23) hb); replace BK101 := bB BK101 hb; replace BK102 := bB BK102 hb; replace BK103 := bB BK103 hb; replace HB := sB HB hb; clear hb ho23
 obtain ⟨Ao25, co25, eo25⟩ := Kd.R_slice HO122.out
 (first | subst eo25 | (injection eo25 with f1_ f2_ f3_; have f4_ := f1_.symm; have f5_ := f3_.symm; clear f1_ f2_ f3_; subst f4_; subst f5_))
 refine hK.out _ _ ⟨cE BK103 0, cE BK103 1, cE BK103 2, cE BK103 3, cE BK103 4, cE BK103 5, cE BK103 6, HS7_⟩ (fun hHeld => ?_)
 clear hK K
 refine nX (some 29) ?_
 refine last_ (i := 8) (N := some 30) #[true, true, true, true, true, true, true, true, true, false] rfl rfl (one_of HT_.out (by kernel_rfl)) (by decide) (fun K hK => ?_)
 refine Kd.R_append_rows_step k28 (w0 := w) w.heap.size (by rfl) (.tmp 22) (.tmp 29) 31 28 (.agg #[(.int .i64 0), (.int .i64 0), (.int .i64 0), (.int .i64 0), (.int .i64 0), (.int .i64 0), (.int .u64 0)]) 56 rfl Try.underlying31 info28 rfl (by decide) (by omega) v109 t108 y120 _ _ _ (fun k_ => some k_ ≠ (.slice Ao25 y120.length co25 : Value).ownBlock ∧ k_ ≠ gb103) (fun _ => False) rfl rfl ?aO ?aR (fun _ _ h => h) (fun _ h => h.elim) ?aF ?aB ?aS ?aL ?_
 (case aR => repeat (first | exact (Kd.R_reads' HO122.out).2.2 | (with_reducible refine Kd.C_alloc ?_ _) | (with_reducible refine Kd.C_drewN ?_ _) | (with_reducible refine Kd.C_drew ?_)))
 (case aB => exact (sD HB))
 (case aF => exact (fun k_ hk => ⟨Kd.fresh' (Kd.R_lt (rD HO122)) k_ hk, Kd.freshB (g := gb103) (o := .cells #[.int .i64 a2_0, .int .i64 a2_1, .int .i64 a2_2, .int .i64 a2_3, .int .i64 a2_4, .int .i64 a2_5, .int .u64 a2_6] 28 (0, 0)) (bD BK103) k_ hk⟩))
 (case aO => exact (rD ⟨Kd.R_mono HO110.out (fun _ hk => ⟨hk.2, hk.1.2⟩)⟩))
 (case aS => exact (below_size (sD HB)))
 (case aL => have := LMc9.out; omega)
 intro v124 w24 ho hb hg hat
 rw [← Ny123.out] at ho
 have HO125 := aM (ho); replace BK101 := aM (blk_grown (g := gb101) (o := .cells #[.int .u8 a0_0, .slice A0_1 l0_1.length c0_1, .int .u8 a0_2] 24 (0, 0)) (bD BK101) hg (Kd.R_ne HO110.out BK101.out (by decide))); replace BK102 := aM (blk_grown (g := gb102) (o := .cells #[.int .i64 a1_0, .int .i64 a1_1, .int .i64 a1_2] 25 (0, 0)) (bD BK102) hg (Kd.R_ne HO110.out BK102.out (by decide))); replace BK103 := aM (blk_grown (g := gb103) (o := .cells #[.int .i64 a2_0, .int .i64 a2_1, .int .i64 a2_2, .int .i64 a2_3, .int .i64 a2_4, .int .i64 a2_5, .int .u64 a2_6] 28 (0, 0)) (bD BK103) hg (Kd.R_away HO110.out (fun _ hk => hk.1.2))); replace HO107 := aM (Kd.R_over' (rD HO107) (Kd.R_typed (rD HO110)) (by decide) hg)
 replace HO122 := aM (Kd.R_after (ok := (fun k_ => k_ ≠ gb103)) (rD ⟨Kd.R_mono HO122.out (fun _ hk => ⟨hk.2, hk.1.2⟩)⟩) hg hat); replace HB := aM (hb); clear HO110 ho hb hg hat
 refine hK.out _ _ ?_
 clear hK K
 refine nX (some 30) ?_
 refine pX (i := 9) (N := some 9) rfl rfl HT_ ?_
 refine done_ (done_of HT_.out (by kernel_rfl)) ?_
 obtain ⟨Ao26, co26, eo26⟩ := Kd.R_slice HO125.out
 subst eo26
 go_upto_if 33 with (fail)
 go_cut [] (fun wc => ∃ (kq : Nat) (x9_9 : List (S28)) (x104000_9 : Int) (x104001_9 : Int) (x104002_9 : Int) (x104003_9 : Int) (x104004_9 : Int) (x104005_9 : Int) (x104006_9 : Int), Aside0 (parolelaw32_FieldMatchesReference.j0 kq true t105 x9_9 t111 a1_0 a1_1 a1_2 = some r) ∧ Aside0 (kq ≤ k) ∧ Aside0 (Kd.R (Kd.int .u64) 26 wc w.heap.size (fun _ => True) (.slice (some ad112) t105.length co20) t105) ∧ Aside0 (Kd.R k28 28 wc w.heap.size (fun k_ => k_ ≠ gb103) (.slice Ao26 y123.length co26) x9_9) ∧ Aside0 (wc.heap[gb101]? = some (.cells #[.int .u8 a0_0, (.slice A0_1 l0_1.length c0_1), .int .u8 a0_2] 24 (0, 0))) ∧ Aside0 (wc.heap[gb102]? = some (.cells #[.int .i64 a1_0, .int .i64 a1_1, .int .i64 a1_2] 25 (0, 0))) ∧ Aside0 (wc.heap[gb103]? = some (.cells #[.int .i64 x104000_9, .int .i64 x104001_9, .int .i64 x104002_9, .int .i64 x104003_9, .int .i64 x104004_9, .int .i64 x104005_9, .int .u64 x104006_9] 28 (0, 0))) ∧ Aside0 (Below w.heap.size w wc))
 case first =>
  have H := HC10.out; clear HC10
  by_cases c27 : (y123.length : Int) > 2
  ·rw [if_pos c27] at H
   have c27b0 : decide (2 < (y123.length : Int)) = true := decide_eq_true c27
   have c27b1 : decide (2 < y123.length) = true := decide_eq_true (by omega)
   clear c27
   (first | rw [c27b0] | (simp only [i64_w, i32_w]; rw [c27b0]) | skip)
   by_cases c28 : 0 < (y123.length : Int)
   ·rw [if_pos c28] at H
    have c28b0 : decide (0 < (y123.length : Int)) = true := decide_eq_true c28
    have c28b1 : decide (0 < y123.length) = true := decide_eq_true (by omega)
    clear c28; replace H := Option.bind_eq_some_iff.mp H
    obtain ⟨⟨t127, t128, t129, t130, t131, t132, t133⟩, A290, H⟩ := H
    replace H : (parolelaw32_FieldMatchesReference.j0 k true t105 (y123.set (0 : Int).toNat (⟨t127, t128, t129, t130, t131, t132, t133⟩ : S28)) t111 a1_0 a1_1 a1_2) = some r := H
    have A29 := aM A290; clear A290
    obtain ⟨y134, hy134⟩ : ∃ y_ : List (S28), y_ = (y123.set (0 : Int).toNat (⟨t127, t128, t129, t130, t131, t132, t133⟩ : S28)) := ⟨_, rfl⟩
    replace H : (parolelaw32_FieldMatchesReference.j0 k true t105 y134 t111 a1_0 a1_1 a1_2) = some r := by first | (rw [hy134]; with_reducible exact H) | (have H2_ := (Option.bind_some _ _).symm.trans H; rw [hy134]; with_reducible exact H2_) | (have H2_ := (Option.bind_some _ _).symm.trans H; with_reducible exact H2_) | with_reducible exact H | (rw [hy134]; exact H) | exact H
    have Ny134 := aM hy134; clear hy134; have H' := aM H; clear H
    try go_wp2
    replace HO107 := aM (Kd.R_drew HO107.out); replace HO122 := aM (Kd.R_drew HO122.out); replace HO125 := aM (Kd.R_drew HO125.out); replace BK101 := aM (blk_drew BK101.out); replace BK102 := aM (blk_drew BK102.out); replace BK103 := aM (blk_drew BK103.out); replace HB := aM (below_drew1 HB.out)
    have p126 : 0 ≤ (0 : Int) := (by omega)
    have q126 : 0 < (y123.length : Int) := of_decide_eq_true (by first | (with_reducible assumption) | assumption)
    obtain ⟨ad126, e126, hx126_0, hx126_1, hx126_2, hx126_3, hx126_4, hx126_5, hx126_6⟩ := at_T28 (Kd.R_reads' HO125.out).2.2 0 p126 q126
    cases e126
    have qi126 : (0 < y123.length) = True := eq_true (by omega)
    (try rw [show ((0 : Int)).toNat = 0 from rfl] at hx126_0)
    (try rw [show 0 * 7 = 0 from rfl] at hx126_0)
    (try rw [Addr.add_zero'] at hx126_0)
    (try rw [show ((0 : Int)).toNat = 0 from rfl] at hx126_1)
    (try rw [show 0 * 7 = 0 from rfl] at hx126_1)
    (try rw [Addr.add_zero'] at hx126_1)
    (try rw [show ((0 : Int)).toNat = 0 from rfl] at hx126_2)
    (try rw [show 0 * 7 = 0 from rfl] at hx126_2)
    (try rw [Addr.add_zero'] at hx126_2)
    (try rw [show ((0 : Int)).toNat = 0 from rfl] at hx126_3)
    (try rw [show 0 * 7 = 0 from rfl] at hx126_3)
    (try rw [Addr.add_zero'] at hx126_3)
    (try rw [show ((0 : Int)).toNat = 0 from rfl] at hx126_4)
    (try rw [show 0 * 7 = 0 from rfl] at hx126_4)
    (try rw [Addr.add_zero'] at hx126_4)
    (try rw [show ((0 : Int)).toNat = 0 from rfl] at hx126_5)
    (try rw [show 0 * 7 = 0 from rfl] at hx126_5)
    (try rw [Addr.add_zero'] at hx126_5)
    (try rw [show ((0 : Int)).toNat = 0 from rfl] at hx126_6)
    (try rw [show 0 * 7 = 0 from rfl] at hx126_6)
    (try rw [Addr.add_zero'] at hx126_6)
    replace p126 := eq_true p126; replace q126 := eq_true q126
    refine start_ (n := 12) (S := fun w' => w'.cell? ⟨gb102, 0, none⟩ = some (.int .i64 a1_0) ∧ w'.cell? ⟨gb102, 1, none⟩ = some (.int .i64 a1_1) ∧ w'.cell? ⟨gb102, 2, none⟩ = some (.int .i64 a1_2) ∧ w'.cell? ad126 = some (.int .i64 ((rd_T28 y123 0).f0)) ∧ w'.cell? ⟨ad126.block, ad126.off + 1, none⟩ = some (.int .i64 ((rd_T28 y123 0).f1)) ∧ w'.cell? ⟨ad126.block, ad126.off + 2, none⟩ = some (.int .i64 ((rd_T28 y123 0).f2)) ∧ w'.cell? ⟨ad126.block, ad126.off + 3, none⟩ = some (.int .i64 ((rd_T28 y123 0).f3)) ∧ w'.cell? ⟨ad126.block, ad126.off + 4, none⟩ = some (.int .i64 ((rd_T28 y123 0).f4)) ∧ w'.cell? ⟨ad126.block, ad126.off + 5, none⟩ = some (.int .i64 ((rd_T28 y123 0).f5)) ∧ w'.cell? ⟨ad126.block, ad126.off + 6, none⟩ = some (.int .u64 ((rd_T28 y123 0).f6))) (ds := [11]) #[false, false, false, false, false, false, false, false, false, false, false, false] (by kernel_rfl) rfl rfl ⟨cE BK102 0, cE BK102 1, cE BK102 2, hx126_0, hx126_1, hx126_2, hx126_3, hx126_4, hx126_5, hx126_6⟩ (fun hHeld => ?_); refine with_tabW parolelaw32_FieldMatchesReference.tab7 parolelaw32_FieldMatchesReference.bits7 (fun HT_ HW_ => ?_)
    generalize w24.drew = w31 at HO107 HO122 HO125 BK101 BK102 BK103 HB hx126_0 hx126_1 hx126_2 hx126_3 hx126_4 hx126_5 hx126_6 hHeld ⊢
    refine pX (i := 0) (N := some 34) rfl rfl HT_ ?_
    refine pX (i := 1) (N := some 35) rfl rfl HT_ ?_
    refine pX (i := 2) (N := some 36) rfl rfl HT_ ?_
    refine pX (i := 4) (N := some 38) rfl rfl HT_ ?_
    refine pX (i := 7) (N := some 41) rfl rfl HT_ ?_
    refine tX (i := 3) (N := some 37) rfl rfl HT_ HW_ hHeld (Or.inl ⟨by rfl, by rintro w' ⟨s0, s1, s2, s3, s4, s5, s6, s7, s8, s9⟩; go_simp; with_reducible rfl⟩) ?_
    refine tX (i := 5) (N := some 39) rfl rfl HT_ HW_ hHeld (Or.inl ⟨by rfl, by rintro w' ⟨s0, s1, s2, s3, s4, s5, s6, s7, s8, s9⟩; go_simp; with_reducible rfl⟩) ?_
    refine pX (i := 6) (N := some 40) rfl rfl HT_ ?_
    refine tX (i := 8) (N := some 42) rfl rfl HT_ HW_ hHeld (Or.inl ⟨by rfl, by rintro w' ⟨s0, s1, s2, s3, s4, s5, s6, s7, s8, s9⟩; go_simp; with_reducible rfl⟩) ?_
    refine oX (i := 9) (N := some 43) rfl rfl HT_ (fun K hK => ?_)
    refine gS Try.func13 #[.agg #[.int .i64 ((rd_T28 y123 0).f0), .int .i64 ((rd_T28 y123 0).f1), .int .i64 ((rd_T28 y123 0).f2), .int .i64 ((rd_T28 y123 0).f3), .int .i64 ((rd_T28 y123 0).f4), .int .i64 ((rd_T28 y123 0).f5), .int .u64 ((rd_T28 y123 0).f6)], .int .u8 ((a1_0) % 256), .int .i64 a1_1] ?_
    with_reducible refine (parolelaw32_changed.calls ((rd_T28 y123 0).f0) ((rd_T28 y123 0).f1) ((rd_T28 y123 0).f2) ((rd_T28 y123 0).f3) ((rd_T28 y123 0).f4) ((rd_T28 y123 0).f5) ((rd_T28 y123 0).f6) ((a1_0) % 256) a1_1 t127 t128 t129 t130 t131 t132 t133 _ A29.out).mono ?_
    rintro e w32 ⟨rfl, hb⟩
    have HS3_ := (hb.cell (World.block_lt_of_cell? _ _ (hHeld.2.2.2.1))).trans (hHeld.2.2.2.1); have HS4_ := (hb.cell (World.block_lt_of_cell? _ _ (hHeld.2.2.2.2.1))).trans (hHeld.2.2.2.2.1); have HS5_ := (hb.cell (World.block_lt_of_cell? _ _ (hHeld.2.2.2.2.2.1))).trans (hHeld.2.2.2.2.2.1); have HS6_ := (hb.cell (World.block_lt_of_cell? _ _ (hHeld.2.2.2.2.2.2.1))).trans (hHeld.2.2.2.2.2.2.1); have HS7_ := (hb.cell (World.block_lt_of_cell? _ _ (hHeld.2.2.2.2.2.2.2.1))).trans (hHeld.2.2.2.2.2.2.2.1); have HS8_ := (hb.cell (World.block_lt_of_cell? _ _ (hHeld.2.2.2.2.2.2.2.2.1))).trans (hHeld.2.2.2.2.2.2.2.2.1); have HS9_ := (hb.cell (World.block_lt_of_cell? _ _ (hHeld.2.2.2.2.2.2.2.2.2))).trans (hHeld.2.2.2.2.2.2.2.2.2)
    refine ⟨_, rfl, ?_⟩
    replace HO107 := rB HO107 hb; replace HO122 := rB HO122 hb; replace HO125 := rB HO125 hb; replace BK101 := bB BK101 hb; replace BK102 := bB BK102 hb; replace BK103 := bB BK103 hb; replace HB := sB HB hb; (try clear hb); (try clear hb2); (try clear hk); (try clear hi)
    have p30 : 0 ≤ (0 : Int) := (by omega)
    have q30 : (0 : Int) < ((y123.length : Int) : Int) := of_decide_eq_true (by first | (with_reducible assumption) | assumption)
    have qi30 : (0 < y123.length) = True := eq_true (by omega)
    obtain ⟨go30, co30, eo30, gb30, gl30, cl30, HG30⟩ := Kd.R_form HO125.out (by omega)
    (first | cases eo30 | (injection eo30 with ea_ en_ ec_; (first | subst ea_ | (injection ea_ with ea_; subst ea_)); subst ec_; clear en_))
    have GB30 := aM gb30; have GG30 := aM HG30; clear gb30 gl30 HG30
    (first | simp only [add_plain] at hx126_0 | skip)
    (first | simp only [add_plain] at hx126_1 | skip)
    (first | simp only [add_plain] at hx126_2 | skip)
    (first | simp only [add_plain] at hx126_3 | skip)
    (first | simp only [add_plain] at hx126_4 | skip)
    (first | simp only [add_plain] at hx126_5 | skip)
    (first | simp only [add_plain] at hx126_6 | skip)
    obtain ⟨ce30, hcl30, hM30, hcc30, hfr30⟩ := Kd.R_elem HO125.out z28 (0 : Int) p30 q30
    obtain rfl := k28_openM hM30
    have hx30_0 : World.cell? _ ⟨go30, (0 : Int).toNat * 7, none⟩ = some (.int .i64 ((rd_T28 y123 0).f0)) := hcc30 0 _ rfl
    have hx30_1 : World.cell? _ ⟨go30, (0 : Int).toNat * 7 + 1, none⟩ = some (.int .i64 ((rd_T28 y123 0).f1)) := hcc30 1 _ rfl
    have hx30_2 : World.cell? _ ⟨go30, (0 : Int).toNat * 7 + 2, none⟩ = some (.int .i64 ((rd_T28 y123 0).f2)) := hcc30 2 _ rfl
    have hx30_3 : World.cell? _ ⟨go30, (0 : Int).toNat * 7 + 3, none⟩ = some (.int .i64 ((rd_T28 y123 0).f3)) := hcc30 3 _ rfl
    have hx30_4 : World.cell? _ ⟨go30, (0 : Int).toNat * 7 + 4, none⟩ = some (.int .i64 ((rd_T28 y123 0).f4)) := hcc30 4 _ rfl
    have hx30_5 : World.cell? _ ⟨go30, (0 : Int).toNat * 7 + 5, none⟩ = some (.int .i64 ((rd_T28 y123 0).f5)) := hcc30 5 _ rfl
    have hx30_6 : World.cell? _ ⟨go30, (0 : Int).toNat * 7 + 6, none⟩ = some (.int .u64 ((rd_T28 y123 0).f6)) := hcc30 6 _ rfl
    have hf30_0 : World.frozen? _ ⟨go30, (0 : Int).toNat * 7, none⟩ = false := hfr30 0
    have hf30_1 : World.frozen? _ ⟨go30, (0 : Int).toNat * 7 + 1, none⟩ = false := hfr30 1
    have hf30_2 : World.frozen? _ ⟨go30, (0 : Int).toNat * 7 + 2, none⟩ = false := hfr30 2
    have hf30_3 : World.frozen? _ ⟨go30, (0 : Int).toNat * 7 + 3, none⟩ = false := hfr30 3
    have hf30_4 : World.frozen? _ ⟨go30, (0 : Int).toNat * 7 + 4, none⟩ = false := hfr30 4
    have hf30_5 : World.frozen? _ ⟨go30, (0 : Int).toNat * 7 + 5, none⟩ = false := hfr30 5
    have hf30_6 : World.frozen? _ ⟨go30, (0 : Int).toNat * 7 + 6, none⟩ = false := hfr30 6
    clear hcl30 hcc30 hfr30 hM30
    (try rw [show ((0 : Int)).toNat = 0 from rfl] at hx30_0)
    (try simp only [Nat.reduceMul, Nat.zero_mul, Nat.zero_add, Nat.reduceAdd] at hx30_0)
    (try rw [show ((0 : Int)).toNat = 0 from rfl] at hf30_0)
    (try simp only [Nat.reduceMul, Nat.zero_mul, Nat.zero_add, Nat.reduceAdd] at hf30_0)
    (try rw [show ((0 : Int)).toNat = 0 from rfl] at hx30_1)
    (try simp only [Nat.reduceMul, Nat.zero_mul, Nat.zero_add, Nat.reduceAdd] at hx30_1)
    (try rw [show ((0 : Int)).toNat = 0 from rfl] at hf30_1)
    (try simp only [Nat.reduceMul, Nat.zero_mul, Nat.zero_add, Nat.reduceAdd] at hf30_1)
    (try rw [show ((0 : Int)).toNat = 0 from rfl] at hx30_2)
    (try simp only [Nat.reduceMul, Nat.zero_mul, Nat.zero_add, Nat.reduceAdd] at hx30_2)
    (try rw [show ((0 : Int)).toNat = 0 from rfl] at hf30_2)
    (try simp only [Nat.reduceMul, Nat.zero_mul, Nat.zero_add, Nat.reduceAdd] at hf30_2)
    (try rw [show ((0 : Int)).toNat = 0 from rfl] at hx30_3)
    (try simp only [Nat.reduceMul, Nat.zero_mul, Nat.zero_add, Nat.reduceAdd] at hx30_3)
    (try rw [show ((0 : Int)).toNat = 0 from rfl] at hf30_3)
    (try simp only [Nat.reduceMul, Nat.zero_mul, Nat.zero_add, Nat.reduceAdd] at hf30_3)
    (try rw [show ((0 : Int)).toNat = 0 from rfl] at hx30_4)
    (try simp only [Nat.reduceMul, Nat.zero_mul, Nat.zero_add, Nat.reduceAdd] at hx30_4)
    (try rw [show ((0 : Int)).toNat = 0 from rfl] at hf30_4)
    (try simp only [Nat.reduceMul, Nat.zero_mul, Nat.zero_add, Nat.reduceAdd] at hf30_4)
    (try rw [show ((0 : Int)).toNat = 0 from rfl] at hx30_5)
    (try simp only [Nat.reduceMul, Nat.zero_mul, Nat.zero_add, Nat.reduceAdd] at hx30_5)
    (try rw [show ((0 : Int)).toNat = 0 from rfl] at hf30_5)
    (try simp only [Nat.reduceMul, Nat.zero_mul, Nat.zero_add, Nat.reduceAdd] at hf30_5)
    (try rw [show ((0 : Int)).toNat = 0 from rfl] at hx30_6)
    (try simp only [Nat.reduceMul, Nat.zero_mul, Nat.zero_add, Nat.reduceAdd] at hx30_6)
    (try rw [show ((0 : Int)).toNat = 0 from rfl] at hf30_6)
    (try simp only [Nat.reduceMul, Nat.zero_mul, Nat.zero_add, Nat.reduceAdd] at hf30_6)
    replace p30 := eq_true p30; replace q30 := eq_true q30
    obtain ⟨ce33, hcl33, hM33, hcc33, hfr33⟩ := Kd.R_elem HO125.out z28 (0 : Int) (by omega) (by have h_ : (0 : Int) < ((y123.length : Int) : Int) := of_decide_eq_true (by first | (with_reducible assumption) | assumption); first | exact h_ | (have e_ := (Kd.R_reads' HO125.out).1; omega) | simpa using h_)
    obtain rfl := k28_openM hM33
    have HP33 := (Kd.R_seg HO125.out (0 : Int) (by omega) (by have h_ : (0 : Int) < ((y123.length : Int) : Int) := of_decide_eq_true (by first | (with_reducible assumption) | assumption); first | exact h_ | (have e_ := (Kd.R_reads' HO125.out).1; omega) | simpa using h_) (seg := [.int .i64 t127, .int .i64 t128, .int .i64 t129, .int .i64 t130, .int .i64 t131, .int .i64 t132, .int .u64 t133]) (j := 0) hcl33 hcc33 (show 7 ≤ 7 from by decide) (x' := (⟨t127, t128, t129, t130, t131, t132, t133⟩ : S28)) (k28_mkM _ _ _ (⟨t127, t128, t129, t130, t131, t132, t133⟩ : S28) ) (fun _ hk => hk)).1
    rw [← Ny134.out] at HP33
    have HQ33 := aM HP33; clear hcl33 hcc33 hfr33 hM33 HP33
    refine hK.out _ _ ⟨cE BK102 0, cE BK102 1, cE BK102 2, HS3_, HS4_, HS5_, HS6_, HS7_, HS8_, HS9_⟩ (fun hHeld => ?_)
    clear hK K
    refine nX (some 43) ?_
    refine pX (i := 10) (N := some 44) rfl rfl HT_ ?_
    refine last_ (i := 11) (N := none) #[true, true, true, true, true, true, true, true, true, true, true, true] rfl rfl (one_of HT_.out (by kernel_rfl)) (by decide) (fun K hK => ?_)
    refine skip_ (w1 := ?_) (by rfl) rfl ?_ ?_
    rotate_left
    ·go_simp
     rfl
    refine hK.out _ _ ?_
    clear hK K
    refine done_ (done_of HT_.out (by kernel_rfl)) ?_
    try go_wp2
    go_meet
    case rel => exact ⟨_, (y134), (a2_0), (a2_1), (a2_2), (a2_3), (a2_4), (a2_5), (a2_6), H', ⟨by first | omega | exact Nat.le_refl _⟩, ⟨by (with_reducible repeat (first | apply Kd.R_alloc | apply Kd.R_drewN | apply Kd.R_drew)); exact Kd.R_mono (Kd.R_far (p := ⟨go30, 6, none⟩) (Kd.R_far (p := ⟨go30, 5, none⟩) (Kd.R_far (p := ⟨go30, 4, none⟩) (Kd.R_far (p := ⟨go30, 3, none⟩) (Kd.R_far (p := ⟨go30, 2, none⟩) (Kd.R_far (p := ⟨go30, 1, none⟩) (Kd.R_far (p := ⟨go30, 0, none⟩) (Kd.R_types HO107.out GG30.out (by decide)) (fun _ hk => hk.2) (.int .i64 t127)) (fun _ hk => hk.2) (.int .i64 t128)) (fun _ hk => hk.2) (.int .i64 t129)) (fun _ hk => hk.2) (.int .i64 t130)) (fun _ hk => hk.2) (.int .i64 t131)) (fun _ hk => hk.2) (.int .i64 t132)) (fun _ hk => hk.2) (.int .u64 t133)) (fun _ hk => trivial)⟩, ⟨by (with_reducible repeat (first | apply Kd.R_alloc | apply Kd.R_drewN | apply Kd.R_drew)); exact Kd.R_mono HQ33.out (fun _ hk => hk.2)⟩, ⟨by refine bM ?_; refine blk_far ?_ (by have h_ := Kd.R_ne HO125.out BK101.out (by decide); intro e_; exact h_ (by rw [e_]; rfl)) _; refine bM ?_; refine blk_far ?_ (by have h_ := Kd.R_ne HO125.out BK101.out (by decide); intro e_; exact h_ (by rw [e_]; rfl)) _; refine bM ?_; refine blk_far ?_ (by have h_ := Kd.R_ne HO125.out BK101.out (by decide); intro e_; exact h_ (by rw [e_]; rfl)) _; refine bM ?_; refine blk_far ?_ (by have h_ := Kd.R_ne HO125.out BK101.out (by decide); intro e_; exact h_ (by rw [e_]; rfl)) _; refine bM ?_; refine blk_far ?_ (by have h_ := Kd.R_ne HO125.out BK101.out (by decide); intro e_; exact h_ (by rw [e_]; rfl)) _; refine bM ?_; refine blk_far ?_ (by have h_ := Kd.R_ne HO125.out BK101.out (by decide); intro e_; exact h_ (by rw [e_]; rfl)) _; refine bM ?_; refine blk_far ?_ (by have h_ := Kd.R_ne HO125.out BK101.out (by decide); intro e_; exact h_ (by rw [e_]; rfl)) _; exact bD BK101⟩, ⟨by refine bM ?_; refine blk_far ?_ (by have h_ := Kd.R_ne HO125.out BK102.out (by decide); intro e_; exact h_ (by rw [e_]; rfl)) _; refine bM ?_; refine blk_far ?_ (by have h_ := Kd.R_ne HO125.out BK102.out (by decide); intro e_; exact h_ (by rw [e_]; rfl)) _; refine bM ?_; refine blk_far ?_ (by have h_ := Kd.R_ne HO125.out BK102.out (by decide); intro e_; exact h_ (by rw [e_]; rfl)) _; refine bM ?_; refine blk_far ?_ (by have h_ := Kd.R_ne HO125.out BK102.out (by decide); intro e_; exact h_ (by rw [e_]; rfl)) _; refine bM ?_; refine blk_far ?_ (by have h_ := Kd.R_ne HO125.out BK102.out (by decide); intro e_; exact h_ (by rw [e_]; rfl)) _; refine bM ?_; refine blk_far ?_ (by have h_ := Kd.R_ne HO125.out BK102.out (by decide); intro e_; exact h_ (by rw [e_]; rfl)) _; refine bM ?_; refine blk_far ?_ (by have h_ := Kd.R_ne HO125.out BK102.out (by decide); intro e_; exact h_ (by rw [e_]; rfl)) _; exact bD BK102⟩, ⟨by refine bM ?_; refine blk_far ?_ (by have h_ := Kd.R_away HO125.out (fun _ hk => hk.2); intro e_; exact h_ (by rw [e_]; rfl)) _; refine bM ?_; refine blk_far ?_ (by have h_ := Kd.R_away HO125.out (fun _ hk => hk.2); intro e_; exact h_ (by rw [e_]; rfl)) _; refine bM ?_; refine blk_far ?_ (by have h_ := Kd.R_away HO125.out (fun _ hk => hk.2); intro e_; exact h_ (by rw [e_]; rfl)) _; refine bM ?_; refine blk_far ?_ (by have h_ := Kd.R_away HO125.out (fun _ hk => hk.2); intro e_; exact h_ (by rw [e_]; rfl)) _; refine bM ?_; refine blk_far ?_ (by have h_ := Kd.R_away HO125.out (fun _ hk => hk.2); intro e_; exact h_ (by rw [e_]; rfl)) _; refine bM ?_; refine blk_far ?_ (by have h_ := Kd.R_away HO125.out (fun _ hk => hk.2); intro e_; exact h_ (by rw [e_]; rfl)) _; refine bM ?_; refine blk_far ?_ (by have h_ := Kd.R_away HO125.out (fun _ hk => hk.2); intro e_; exact h_ (by rw [e_]; rfl)) _; exact bD BK103⟩, ⟨by repeat (first | (with_reducible first | exact HB.out | apply below_alloc | apply pw_below_drewN | apply below_drew1 | refine below_set ?_ GB30.out | refine below_set ?_ GB30.out | refine below_set ?_ GB30.out | refine below_set ?_ GB30.out | refine below_set ?_ GB30.out | refine below_set ?_ GB30.out | refine below_set ?_ GB30.out | refine below_set ?_ GE101.out | refine below_set ?_ GE102.out | refine below_set ?_ GE103.out) | exact HB.out)⟩⟩
   ·rw [if_neg c28] at H
    exact absurd H (by simp)
  ·rw [if_neg c27] at H
   have c27b0 : decide (2 < (y123.length : Int)) = false := decide_eq_false c27
   have c27b1 : decide (2 < y123.length) = false := decide_eq_false (by omega)
   clear c27
   (first | rw [c27b0] | (simp only [i64_w, i32_w]; rw [c27b0]) | skip)
   have H' := aM H; clear H
   go_wp2
   go_meet
   case rel => exact ⟨_, (y123), (a2_0), (a2_1), (a2_2), (a2_3), (a2_4), (a2_5), (a2_6), H', ⟨by first | omega | exact Nat.le_refl _⟩, ⟨by (with_reducible repeat (first | apply Kd.R_alloc | apply Kd.R_drewN | apply Kd.R_drew)); exact HO107.out⟩, ⟨by (with_reducible repeat (first | apply Kd.R_alloc | apply Kd.R_drewN | apply Kd.R_drew)); exact Kd.R_mono HO125.out (fun _ hk => hk.2)⟩, ⟨by exact bD BK101⟩, ⟨by exact bD BK102⟩, ⟨by exact bD BK103⟩, ⟨sD HB⟩⟩
 case rest =>
  clear HC10
  try clear c1
  try clear p1
  try clear q1
  try clear hx1
  try clear qi1
  try clear c2
  try clear p2
  try clear c3
  try clear p3
  try clear q3
  try clear hx3
  try clear qi3
  try clear hf3
  try clear c5
  try clear c7
  try clear c7b0
  try clear c7b1
  try clear c9
  try clear c10
  try clear c11
  try clear p11
  try clear q11
  try clear hx11
  try clear qi11
  try clear c12
  try clear p12
  try clear q12
  try clear hx12
  try clear qi12
  try clear c13
  try clear c15
  try clear c16
  try clear c27
  try clear c27b0
  try clear c27b1
  try clear c28
  try clear c28b0
  try clear c28b1
  try clear c30
  try clear p30
  try clear q30
  try clear hx30
  try clear qi30
  try clear hf30
  try clear c33
  try clear hcz17_0
  try clear hcz17_1
  try clear hcz17_2
  try clear hfz17_0
  try clear hfz17_1
  try clear hfz17_2
  try clear hx112_0
  try clear hx126_0
  try clear hx126_1
  try clear hx126_2
  try clear hx126_3
  try clear hx126_4
  try clear hx126_5
  try clear hx126_6
  try clear hx30_0
  try clear hx30_1
  try clear hx30_2
  try clear hx30_3
  try clear hx30_4
  try clear hx30_5
  try clear hx30_6
  try clear p112
  try clear p126
  try clear p30
  try clear q112
  try clear q126
  try clear q30
  obtain ⟨kq, x9_9, x104000_9, x104001_9, x104002_9, x104003_9, x104004_9, x104005_9, x104006_9, HA, HJ9, HO_8, HO_9, BK101, BK102, BK103, HB⟩ := hcut
  have hl9_9 := (Kd.R_reads' HO_9.out).1
  rw [hl9_9] at HO_9
  (try simp only [hl9_9])
  (try simp only [hl9_9] at BK101)
  (try simp only [hl9_9] at BK102)
  (try simp only [hl9_9] at BK103)
  (try simp only [hl9_9] at HO_8)
  cases kq with
  | zero => exact absurd HA.out (by simp [parolelaw32_FieldMatchesReference.j0])
  | succ kj9 =>
   have H := HA.out; clear HA
   simp only [parolelaw32_FieldMatchesReference.j0] at H
   have H' := aM H; clear H
   go_wp2
   go_loopg [11] kj9 (fun kq v11 w' => ∃ (x11_2 : Int), v11 = .int .i64 x11_2 ∧ Aside0 (parolelaw32_FieldMatchesReference.l0 kq true t105 x9_9 t111 x11_2 a1_0 a1_1 a1_2 = some r) ∧ Aside0 (kq ≤ kj9) ∧ Aside0 (Kd.R (Kd.int .u64) 26 w' w.heap.size (fun _ => True) (.slice (some ad112) t105.length co20) t105) ∧ Aside0 (Kd.R k28 28 w' w.heap.size (fun k_ => k_ ≠ gb103) (.slice Ao26 x9_9.length co26) x9_9) ∧ Aside0 (w'.heap[gb101]? = some (.cells #[.int .u8 a0_0, (.slice A0_1 l0_1.length c0_1), .int .u8 a0_2] 24 (0, 0))) ∧ Aside0 (w'.heap[gb102]? = some (.cells #[.int .i64 a1_0, .int .i64 a1_1, .int .i64 a1_2] 25 (0, 0))) ∧ Aside0 (w'.heap[gb103]? = some (.cells #[.int .i64 x104000_9, .int .i64 x104001_9, .int .i64 x104002_9, .int .i64 x104003_9, .int .i64 x104004_9, .int .i64 x104005_9, .int .u64 x104006_9] 28 (0, 0))) ∧ Aside0 (Below w.heap.size w w'))
   case atStart => exact ⟨(0), (by first | rfl | (simp; done) | (simp [*]; done)), H', ⟨Nat.le_refl _⟩, ⟨by (try simp only [hl9_9]); (with_reducible repeat (first | apply Kd.R_alloc | apply Kd.R_drewN | apply Kd.R_drew)); exact HO_8.out⟩, ⟨by (try simp only [hl9_9]); (with_reducible repeat (first | apply Kd.R_alloc | apply Kd.R_drewN | apply Kd.R_drew)); exact HO_9.out⟩, ⟨by (try simp only [hl9_9]); exact bD BK101⟩, ⟨by (try simp only [hl9_9]); exact bD BK102⟩, ⟨by (try simp only [hl9_9]); exact bD BK103⟩, ⟨sD HB⟩⟩
   case round =>
    clear H'
    try clear c1
    try clear p1
    try clear q1
    try clear hx1
    try clear qi1
    try clear c2
    try clear p2
    try clear c3
    try clear p3
    try clear q3
    try clear hx3
    try clear qi3
    try clear hf3
    try clear c5
    try clear c7
    try clear c7b0
    try clear c7b1
    try clear c9
    try clear c10
    try clear c11
    try clear p11
    try clear q11
    try clear hx11
    try clear qi11
    try clear c12
    try clear p12
    try clear q12
    try clear hx12
    try clear qi12
    try clear c13
    try clear c15
    try clear c16
    try clear c27
    try clear c27b0
    try clear c27b1
    try clear c28
    try clear c28b0
    try clear c28b1
    try clear c30
    try clear p30
    try clear q30
    try clear hx30
    try clear qi30
    try clear hf30
    try clear c33
    try clear hcz17_0
    try clear hcz17_1
    try clear hcz17_2
    try clear hfz17_0
    try clear hfz17_1
    try clear hfz17_2
    try clear hx112_0
    try clear hx126_0
    try clear hx126_1
    try clear hx126_2
    try clear hx126_3
    try clear hx126_4
    try clear hx126_5
    try clear hx126_6
    try clear hx30_0
    try clear hx30_1
    try clear hx30_2
    try clear hx30_3
    try clear hx30_4
    try clear hx30_5
    try clear hx30_6
    try clear p1
    try clear p11
    try clear p112
    try clear p12
    try clear p126
    try clear p2
    try clear p3
    try clear p30
    try clear q1
    try clear q11
    try clear q112
    try clear q12
    try clear q126
    try clear q3
    try clear q30
    obtain ⟨x11_2, rfl, HA, HK2, HO_8, HO_9, BK101, BK102, BK103, HB⟩ := hrel
    cases gk with
    | zero => exact absurd HA.out (by simp [parolelaw32_FieldMatchesReference.l0])
    | succ k2 =>
     have H := HA.out; clear HA
     simp only [parolelaw32_FieldMatchesReference.l0] at H
     by_cases c34 : x11_2 < (x9_9.length : Int)
     ·rw [if_pos c34] at H
      have c34b0 : decide (x11_2 < (x9_9.length : Int)) = true := decide_eq_true c34
      clear c34
      by_cases c35 : 0 ≤ x11_2
      ·rw [if_pos c35] at H
       have c35b0 : decide (0 ≤ x11_2) = true := decide_eq_true c35
       clear c35; replace H := Option.bind_eq_some_iff.mp H
       obtain ⟨t136, A360, H⟩ := H
       replace H : ((paroleref32_Tag.f k2 (IntKind.u64.wrap (a1_2)) ((rd_T28 x9_9 x11_2).f0) ((rd_T28 x9_9 x11_2).f1) ((rd_T28 x9_9 x11_2).f2) ((rd_T28 x9_9 x11_2).f3) ((rd_T28 x9_9 x11_2).f4) ((rd_T28 x9_9 x11_2).f5) ((rd_T28 x9_9 x11_2).f6)).bind fun t138 => (if t136 = t138 then ((field_Sign.f k2 (IntKind.u64.wrap (a1_2)) ((rd_T28 x9_9 x11_2).f0) ((rd_T28 x9_9 x11_2).f1) ((rd_T28 x9_9 x11_2).f2) ((rd_T28 x9_9 x11_2).f3) ((rd_T28 x9_9 x11_2).f4) ((rd_T28 x9_9 x11_2).f5) ((rd_T28 x9_9 x11_2).f6)).bind fun bt140 => ((paroleref32_Sign.f k2 (IntKind.u64.wrap (a1_2)) ((rd_T28 x9_9 x11_2).f0) ((rd_T28 x9_9 x11_2).f1) ((rd_T28 x9_9 x11_2).f2) ((rd_T28 x9_9 x11_2).f3) ((rd_T28 x9_9 x11_2).f4) ((rd_T28 x9_9 x11_2).f5) ((rd_T28 x9_9 x11_2).f6)).bind fun bt148 => (if (!(bt140.1 == bt148.1) || (!(bt140.2.1 == bt148.2.1) || (!(bt140.2.2.1 == bt148.2.2.1) || (!(bt140.2.2.2.1 == bt148.2.2.2.1) || (!(bt140.2.2.2.2.1 == bt148.2.2.2.2.1) || (!(bt140.2.2.2.2.2.1 == bt148.2.2.2.2.2.1) || (!(bt140.2.2.2.2.2.2 == bt148.2.2.2.2.2.2)))))))) = true then (some false) else ((field_Right.f k2 t105 ((rd_T28 x9_9 x11_2).f0) ((rd_T28 x9_9 x11_2).f1) ((rd_T28 x9_9 x11_2).f2) ((rd_T28 x9_9 x11_2).f3) ((rd_T28 x9_9 x11_2).f4) ((rd_T28 x9_9 x11_2).f5) ((rd_T28 x9_9 x11_2).f6)).bind fun t156 => ((paroleref32_Right.f k2 t105 ((rd_T28 x9_9 x11_2).f0) ((rd_T28 x9_9 x11_2).f1) ((rd_T28 x9_9 x11_2).f2) ((rd_T28 x9_9 x11_2).f3) ((rd_T28 x9_9 x11_2).f4) ((rd_T28 x9_9 x11_2).f5) ((rd_T28 x9_9 x11_2).f6)).bind fun t158 => (if t156 = t158 then (parolelaw32_FieldMatchesReference.l0 k2 true t105 x9_9 t111 (wrap64 (x11_2 + 1)) a1_0 a1_1 a1_2) else (some false))))))) else (some false))) = some r := H
       have A36 := aM A360; clear A360; replace H := Option.bind_eq_some_iff.mp H
       obtain ⟨t138, A370, H⟩ := H
       replace H : (if t136 = t138 then ((field_Sign.f k2 (IntKind.u64.wrap (a1_2)) ((rd_T28 x9_9 x11_2).f0) ((rd_T28 x9_9 x11_2).f1) ((rd_T28 x9_9 x11_2).f2) ((rd_T28 x9_9 x11_2).f3) ((rd_T28 x9_9 x11_2).f4) ((rd_T28 x9_9 x11_2).f5) ((rd_T28 x9_9 x11_2).f6)).bind fun bt140 => ((paroleref32_Sign.f k2 (IntKind.u64.wrap (a1_2)) ((rd_T28 x9_9 x11_2).f0) ((rd_T28 x9_9 x11_2).f1) ((rd_T28 x9_9 x11_2).f2) ((rd_T28 x9_9 x11_2).f3) ((rd_T28 x9_9 x11_2).f4) ((rd_T28 x9_9 x11_2).f5) ((rd_T28 x9_9 x11_2).f6)).bind fun bt148 => (if (!(bt140.1 == bt148.1) || (!(bt140.2.1 == bt148.2.1) || (!(bt140.2.2.1 == bt148.2.2.1) || (!(bt140.2.2.2.1 == bt148.2.2.2.1) || (!(bt140.2.2.2.2.1 == bt148.2.2.2.2.1) || (!(bt140.2.2.2.2.2.1 == bt148.2.2.2.2.2.1) || (!(bt140.2.2.2.2.2.2 == bt148.2.2.2.2.2.2)))))))) = true then (some false) else ((field_Right.f k2 t105 ((rd_T28 x9_9 x11_2).f0) ((rd_T28 x9_9 x11_2).f1) ((rd_T28 x9_9 x11_2).f2) ((rd_T28 x9_9 x11_2).f3) ((rd_T28 x9_9 x11_2).f4) ((rd_T28 x9_9 x11_2).f5) ((rd_T28 x9_9 x11_2).f6)).bind fun t156 => ((paroleref32_Right.f k2 t105 ((rd_T28 x9_9 x11_2).f0) ((rd_T28 x9_9 x11_2).f1) ((rd_T28 x9_9 x11_2).f2) ((rd_T28 x9_9 x11_2).f3) ((rd_T28 x9_9 x11_2).f4) ((rd_T28 x9_9 x11_2).f5) ((rd_T28 x9_9 x11_2).f6)).bind fun t158 => (if t156 = t158 then (parolelaw32_FieldMatchesReference.l0 k2 true t105 x9_9 t111 (wrap64 (x11_2 + 1)) a1_0 a1_1 a1_2) else (some false))))))) else (some false)) = some r := H
       have A37 := aM A370; clear A370
       by_cases c38 : t136 = t138
       ·rw [if_pos c38] at H
        have c38b0 : (t136 == t138) = true := beq_iff_eq.mpr c38
        have c38b1 : (t136 != t138) = false := bne_eq_false_iff_eq.mpr c38
        clear c38; replace H := Option.bind_eq_some_iff.mp H
        obtain ⟨⟨t140, t141, t142, t143, t144, t145, t146⟩, A390, H⟩ := H
        replace H : ((paroleref32_Sign.f k2 (IntKind.u64.wrap (a1_2)) ((rd_T28 x9_9 x11_2).f0) ((rd_T28 x9_9 x11_2).f1) ((rd_T28 x9_9 x11_2).f2) ((rd_T28 x9_9 x11_2).f3) ((rd_T28 x9_9 x11_2).f4) ((rd_T28 x9_9 x11_2).f5) ((rd_T28 x9_9 x11_2).f6)).bind fun bt148 => (if (!(t140 == bt148.1) || (!(t141 == bt148.2.1) || (!(t142 == bt148.2.2.1) || (!(t143 == bt148.2.2.2.1) || (!(t144 == bt148.2.2.2.2.1) || (!(t145 == bt148.2.2.2.2.2.1) || (!(t146 == bt148.2.2.2.2.2.2)))))))) = true then (some false) else ((field_Right.f k2 t105 ((rd_T28 x9_9 x11_2).f0) ((rd_T28 x9_9 x11_2).f1) ((rd_T28 x9_9 x11_2).f2) ((rd_T28 x9_9 x11_2).f3) ((rd_T28 x9_9 x11_2).f4) ((rd_T28 x9_9 x11_2).f5) ((rd_T28 x9_9 x11_2).f6)).bind fun t156 => ((paroleref32_Right.f k2 t105 ((rd_T28 x9_9 x11_2).f0) ((rd_T28 x9_9 x11_2).f1) ((rd_T28 x9_9 x11_2).f2) ((rd_T28 x9_9 x11_2).f3) ((rd_T28 x9_9 x11_2).f4) ((rd_T28 x9_9 x11_2).f5) ((rd_T28 x9_9 x11_2).f6)).bind fun t158 => (if t156 = t158 then (parolelaw32_FieldMatchesReference.l0 k2 true t105 x9_9 t111 (wrap64 (x11_2 + 1)) a1_0 a1_1 a1_2) else (some false)))))) = some r := H
        have A39 := aM A390; clear A390; replace H := Option.bind_eq_some_iff.mp H
        obtain ⟨⟨t148, t149, t150, t151, t152, t153, t154⟩, A400, H⟩ := H
        replace H : (if (!(t140 == t148) || (!(t141 == t149) || (!(t142 == t150) || (!(t143 == t151) || (!(t144 == t152) || (!(t145 == t153) || (!(t146 == t154)))))))) = true then (some false) else ((field_Right.f k2 t105 ((rd_T28 x9_9 x11_2).f0) ((rd_T28 x9_9 x11_2).f1) ((rd_T28 x9_9 x11_2).f2) ((rd_T28 x9_9 x11_2).f3) ((rd_T28 x9_9 x11_2).f4) ((rd_T28 x9_9 x11_2).f5) ((rd_T28 x9_9 x11_2).f6)).bind fun t156 => ((paroleref32_Right.f k2 t105 ((rd_T28 x9_9 x11_2).f0) ((rd_T28 x9_9 x11_2).f1) ((rd_T28 x9_9 x11_2).f2) ((rd_T28 x9_9 x11_2).f3) ((rd_T28 x9_9 x11_2).f4) ((rd_T28 x9_9 x11_2).f5) ((rd_T28 x9_9 x11_2).f6)).bind fun t158 => (if t156 = t158 then (parolelaw32_FieldMatchesReference.l0 k2 true t105 x9_9 t111 (wrap64 (x11_2 + 1)) a1_0 a1_1 a1_2) else (some false))))) = some r := H
        have A40 := aM A400; clear A400
        by_cases c41 : (!(t140 == t148) || (!(t141 == t149) || (!(t142 == t150) || (!(t143 == t151) || (!(t144 == t152) || (!(t145 == t153) || (!(t146 == t154)))))))) = true
        ·rw [if_pos c41] at H
         have c41b0 : (!(t140 == t148) || (!(t141 == t149) || (!(t142 == t150) || (!(t143 == t151) || (!(t144 == t152) || (!(t145 == t153) || (!(t146 == t154)))))))) = true := c41
         clear c41
         exact absurd ((Option.some.inj H).trans HT.out) (by decide)
        ·rw [if_neg c41] at H
         have c41b0 : (!(t140 == t148) || (!(t141 == t149) || (!(t142 == t150) || (!(t143 == t151) || (!(t144 == t152) || (!(t145 == t153) || (!(t146 == t154)))))))) = false := by simpa using c41
         clear c41; replace H := Option.bind_eq_some_iff.mp H
         obtain ⟨t156, A420, H⟩ := H
         replace H : ((paroleref32_Right.f k2 t105 ((rd_T28 x9_9 x11_2).f0) ((rd_T28 x9_9 x11_2).f1) ((rd_T28 x9_9 x11_2).f2) ((rd_T28 x9_9 x11_2).f3) ((rd_T28 x9_9 x11_2).f4) ((rd_T28 x9_9 x11_2).f5) ((rd_T28 x9_9 x11_2).f6)).bind fun t158 => (if t156 = t158 then (parolelaw32_FieldMatchesReference.l0 k2 true t105 x9_9 t111 (wrap64 (x11_2 + 1)) a1_0 a1_1 a1_2) else (some false))) = some r := H
         have A42 := aM A420; clear A420; replace H := Option.bind_eq_some_iff.mp H
         obtain ⟨t158, A430, H⟩ := H
         replace H : (if t156 = t158 then (parolelaw32_FieldMatchesReference.l0 k2 true t105 x9_9 t111 (wrap64 (x11_2 + 1)) a1_0 a1_1 a1_2) else (some false)) = some r := H
         have A43 := aM A430; clear A430
         by_cases c44 : t156 = t158
         ·rw [if_pos c44] at H
          have c44b0 : (t156 == t158) = true := beq_iff_eq.mpr c44
          have c44b1 : (t156 != t158) = false := bne_eq_false_iff_eq.mpr c44
          clear c44; have H' := aM H; clear H
          try go_wp2
          replace HO_8 := aM (Kd.R_drew HO_8.out); replace HO_9 := aM (Kd.R_drew HO_9.out); replace BK101 := aM (blk_drew BK101.out); replace BK102 := aM (blk_drew BK102.out); replace BK103 := aM (blk_drew BK103.out); replace HB := aM (below_drew1 HB.out)
          have p135 : 0 ≤ (x11_2 : Int) := of_decide_eq_true (by first | (with_reducible assumption) | assumption)
          have q135 : x11_2 < (x9_9.length : Int) := of_decide_eq_true (by first | (with_reducible assumption) | assumption)
          obtain ⟨ad135, e135, hx135_0, hx135_1, hx135_2, hx135_3, hx135_4, hx135_5, hx135_6⟩ := at_T28 (Kd.R_reads' HO_9.out).2.2 x11_2 p135 q135
          cases e135
          replace p135 := eq_true p135; replace q135 := eq_true q135
          have p137 : 0 ≤ (x11_2 : Int) := of_decide_eq_true (by first | (with_reducible assumption) | assumption)
          have q137 : x11_2 < (x9_9.length : Int) := of_decide_eq_true (by first | (with_reducible assumption) | assumption)
          obtain ⟨ad137, e137, hx137_0, hx137_1, hx137_2, hx137_3, hx137_4, hx137_5, hx137_6⟩ := at_T28 (Kd.R_reads' HO_9.out).2.2 x11_2 p137 q137
          obtain rfl : ad135 = ad137 := (by injection e137)
          replace p137 := eq_true p137; replace q137 := eq_true q137
          have p139 : 0 ≤ (x11_2 : Int) := of_decide_eq_true (by first | (with_reducible assumption) | assumption)
          have q139 : x11_2 < (x9_9.length : Int) := of_decide_eq_true (by first | (with_reducible assumption) | assumption)
          obtain ⟨ad139, e139, hx139_0, hx139_1, hx139_2, hx139_3, hx139_4, hx139_5, hx139_6⟩ := at_T28 (Kd.R_reads' HO_9.out).2.2 x11_2 p139 q139
          obtain rfl : ad135 = ad139 := (by injection e139)
          replace p139 := eq_true p139; replace q139 := eq_true q139
          have p147 : 0 ≤ (x11_2 : Int) := of_decide_eq_true (by first | (with_reducible assumption) | assumption)
          have q147 : x11_2 < (x9_9.length : Int) := of_decide_eq_true (by first | (with_reducible assumption) | assumption)
          obtain ⟨ad147, e147, hx147_0, hx147_1, hx147_2, hx147_3, hx147_4, hx147_5, hx147_6⟩ := at_T28 (Kd.R_reads' HO_9.out).2.2 x11_2 p147 q147
          obtain rfl : ad135 = ad147 := (by injection e147)
          replace p147 := eq_true p147; replace q147 := eq_true q147
          have p155 : 0 ≤ (x11_2 : Int) := of_decide_eq_true (by first | (with_reducible assumption) | assumption)
          have q155 : x11_2 < (x9_9.length : Int) := of_decide_eq_true (by first | (with_reducible assumption) | assumption)
          obtain ⟨ad155, e155, hx155_0, hx155_1, hx155_2, hx155_3, hx155_4, hx155_5, hx155_6⟩ := at_T28 (Kd.R_reads' HO_9.out).2.2 x11_2 p155 q155
          obtain rfl : ad135 = ad155 := (by injection e155)
          replace p155 := eq_true p155; replace q155 := eq_true q155
          have p157 : 0 ≤ (x11_2 : Int) := of_decide_eq_true (by first | (with_reducible assumption) | assumption)
          have q157 : x11_2 < (x9_9.length : Int) := of_decide_eq_true (by first | (with_reducible assumption) | assumption)
          obtain ⟨ad157, e157, hx157_0, hx157_1, hx157_2, hx157_3, hx157_4, hx157_5, hx157_6⟩ := at_T28 (Kd.R_reads' HO_9.out).2.2 x11_2 p157 q157
          obtain rfl : ad135 = ad157 := (by injection e157)
          replace p157 := eq_true p157; replace q157 := eq_true q157
          refine start_ (n := 51) (S := fun w' => w'.cell? ⟨gb102, 0, none⟩ = some (.int .i64 a1_0) ∧ w'.cell? ⟨gb102, 1, none⟩ = some (.int .i64 a1_1) ∧ w'.cell? ⟨gb102, 2, none⟩ = some (.int .i64 a1_2) ∧ w'.cell? (ad135.add ((x11_2).toNat * 7)) = some (.int .i64 ((rd_T28 x9_9 x11_2).f0)) ∧ w'.cell? ⟨(ad135.add ((x11_2).toNat * 7)).block, (ad135.add ((x11_2).toNat * 7)).off + 1, none⟩ = some (.int .i64 ((rd_T28 x9_9 x11_2).f1)) ∧ w'.cell? ⟨(ad135.add ((x11_2).toNat * 7)).block, (ad135.add ((x11_2).toNat * 7)).off + 2, none⟩ = some (.int .i64 ((rd_T28 x9_9 x11_2).f2)) ∧ w'.cell? ⟨(ad135.add ((x11_2).toNat * 7)).block, (ad135.add ((x11_2).toNat * 7)).off + 3, none⟩ = some (.int .i64 ((rd_T28 x9_9 x11_2).f3)) ∧ w'.cell? ⟨(ad135.add ((x11_2).toNat * 7)).block, (ad135.add ((x11_2).toNat * 7)).off + 4, none⟩ = some (.int .i64 ((rd_T28 x9_9 x11_2).f4)) ∧ w'.cell? ⟨(ad135.add ((x11_2).toNat * 7)).block, (ad135.add ((x11_2).toNat * 7)).off + 5, none⟩ = some (.int .i64 ((rd_T28 x9_9 x11_2).f5)) ∧ w'.cell? ⟨(ad135.add ((x11_2).toNat * 7)).block, (ad135.add ((x11_2).toNat * 7)).off + 6, none⟩ = some (.int .u64 ((rd_T28 x9_9 x11_2).f6)) ∧ w'.cell? (ad135.add ((x11_2).toNat * 7)) = some (.int .i64 ((rd_T28 x9_9 x11_2).f0)) ∧ w'.cell? ⟨(ad135.add ((x11_2).toNat * 7)).block, (ad135.add ((x11_2).toNat * 7)).off + 1, none⟩ = some (.int .i64 ((rd_T28 x9_9 x11_2).f1)) ∧ w'.cell? ⟨(ad135.add ((x11_2).toNat * 7)).block, (ad135.add ((x11_2).toNat * 7)).off + 2, none⟩ = some (.int .i64 ((rd_T28 x9_9 x11_2).f2)) ∧ w'.cell? ⟨(ad135.add ((x11_2).toNat * 7)).block, (ad135.add ((x11_2).toNat * 7)).off + 3, none⟩ = some (.int .i64 ((rd_T28 x9_9 x11_2).f3)) ∧ w'.cell? ⟨(ad135.add ((x11_2).toNat * 7)).block, (ad135.add ((x11_2).toNat * 7)).off + 4, none⟩ = some (.int .i64 ((rd_T28 x9_9 x11_2).f4)) ∧ w'.cell? ⟨(ad135.add ((x11_2).toNat * 7)).block, (ad135.add ((x11_2).toNat * 7)).off + 5, none⟩ = some (.int .i64 ((rd_T28 x9_9 x11_2).f5)) ∧ w'.cell? ⟨(ad135.add ((x11_2).toNat * 7)).block, (ad135.add ((x11_2).toNat * 7)).off + 6, none⟩ = some (.int .u64 ((rd_T28 x9_9 x11_2).f6)) ∧ w'.cell? (ad135.add ((x11_2).toNat * 7)) = some (.int .i64 ((rd_T28 x9_9 x11_2).f0)) ∧ w'.cell? ⟨(ad135.add ((x11_2).toNat * 7)).block, (ad135.add ((x11_2).toNat * 7)).off + 1, none⟩ = some (.int .i64 ((rd_T28 x9_9 x11_2).f1)) ∧ w'.cell? ⟨(ad135.add ((x11_2).toNat * 7)).block, (ad135.add ((x11_2).toNat * 7)).off + 2, none⟩ = some (.int .i64 ((rd_T28 x9_9 x11_2).f2)) ∧ w'.cell? ⟨(ad135.add ((x11_2).toNat * 7)).block, (ad135.add ((x11_2).toNat * 7)).off + 3, none⟩ = some (.int .i64 ((rd_T28 x9_9 x11_2).f3)) ∧ w'.cell? ⟨(ad135.add ((x11_2).toNat * 7)).block, (ad135.add ((x11_2).toNat * 7)).off + 4, none⟩ = some (.int .i64 ((rd_T28 x9_9 x11_2).f4)) ∧ w'.cell? ⟨(ad135.add ((x11_2).toNat * 7)).block, (ad135.add ((x11_2).toNat * 7)).off + 5, none⟩ = some (.int .i64 ((rd_T28 x9_9 x11_2).f5)) ∧ w'.cell? ⟨(ad135.add ((x11_2).toNat * 7)).block, (ad135.add ((x11_2).toNat * 7)).off + 6, none⟩ = some (.int .u64 ((rd_T28 x9_9 x11_2).f6)) ∧ w'.cell? (ad135.add ((x11_2).toNat * 7)) = some (.int .i64 ((rd_T28 x9_9 x11_2).f0)) ∧ w'.cell? ⟨(ad135.add ((x11_2).toNat * 7)).block, (ad135.add ((x11_2).toNat * 7)).off + 1, none⟩ = some (.int .i64 ((rd_T28 x9_9 x11_2).f1)) ∧ w'.cell? ⟨(ad135.add ((x11_2).toNat * 7)).block, (ad135.add ((x11_2).toNat * 7)).off + 2, none⟩ = some (.int .i64 ((rd_T28 x9_9 x11_2).f2)) ∧ w'.cell? ⟨(ad135.add ((x11_2).toNat * 7)).block, (ad135.add ((x11_2).toNat * 7)).off + 3, none⟩ = some (.int .i64 ((rd_T28 x9_9 x11_2).f3)) ∧ w'.cell? ⟨(ad135.add ((x11_2).toNat * 7)).block, (ad135.add ((x11_2).toNat * 7)).off + 4, none⟩ = some (.int .i64 ((rd_T28 x9_9 x11_2).f4)) ∧ w'.cell? ⟨(ad135.add ((x11_2).toNat * 7)).block, (ad135.add ((x11_2).toNat * 7)).off + 5, none⟩ = some (.int .i64 ((rd_T28 x9_9 x11_2).f5)) ∧ w'.cell? ⟨(ad135.add ((x11_2).toNat * 7)).block, (ad135.add ((x11_2).toNat * 7)).off + 6, none⟩ = some (.int .u64 ((rd_T28 x9_9 x11_2).f6)) ∧ w'.cell? (ad135.add ((x11_2).toNat * 7)) = some (.int .i64 ((rd_T28 x9_9 x11_2).f0)) ∧ w'.cell? ⟨(ad135.add ((x11_2).toNat * 7)).block, (ad135.add ((x11_2).toNat * 7)).off + 1, none⟩ = some (.int .i64 ((rd_T28 x9_9 x11_2).f1)) ∧ w'.cell? ⟨(ad135.add ((x11_2).toNat * 7)).block, (ad135.add ((x11_2).toNat * 7)).off + 2, none⟩ = some (.int .i64 ((rd_T28 x9_9 x11_2).f2)) ∧ w'.cell? ⟨(ad135.add ((x11_2).toNat * 7)).block, (ad135.add ((x11_2).toNat * 7)).off + 3, none⟩ = some (.int .i64 ((rd_T28 x9_9 x11_2).f3)) ∧ w'.cell? ⟨(ad135.add ((x11_2).toNat * 7)).block, (ad135.add ((x11_2).toNat * 7)).off + 4, none⟩ = some (.int .i64 ((rd_T28 x9_9 x11_2).f4)) ∧ w'.cell? ⟨(ad135.add ((x11_2).toNat * 7)).block, (ad135.add ((x11_2).toNat * 7)).off + 5, none⟩ = some (.int .i64 ((rd_T28 x9_9 x11_2).f5)) ∧ w'.cell? ⟨(ad135.add ((x11_2).toNat * 7)).block, (ad135.add ((x11_2).toNat * 7)).off + 6, none⟩ = some (.int .u64 ((rd_T28 x9_9 x11_2).f6)) ∧ w'.cell? (ad135.add ((x11_2).toNat * 7)) = some (.int .i64 ((rd_T28 x9_9 x11_2).f0)) ∧ w'.cell? ⟨(ad135.add ((x11_2).toNat * 7)).block, (ad135.add ((x11_2).toNat * 7)).off + 1, none⟩ = some (.int .i64 ((rd_T28 x9_9 x11_2).f1)) ∧ w'.cell? ⟨(ad135.add ((x11_2).toNat * 7)).block, (ad135.add ((x11_2).toNat * 7)).off + 2, none⟩ = some (.int .i64 ((rd_T28 x9_9 x11_2).f2)) ∧ w'.cell? ⟨(ad135.add ((x11_2).toNat * 7)).block, (ad135.add ((x11_2).toNat * 7)).off + 3, none⟩ = some (.int .i64 ((rd_T28 x9_9 x11_2).f3)) ∧ w'.cell? ⟨(ad135.add ((x11_2).toNat * 7)).block, (ad135.add ((x11_2).toNat * 7)).off + 4, none⟩ = some (.int .i64 ((rd_T28 x9_9 x11_2).f4)) ∧ w'.cell? ⟨(ad135.add ((x11_2).toNat * 7)).block, (ad135.add ((x11_2).toNat * 7)).off + 5, none⟩ = some (.int .i64 ((rd_T28 x9_9 x11_2).f5)) ∧ w'.cell? ⟨(ad135.add ((x11_2).toNat * 7)).block, (ad135.add ((x11_2).toNat * 7)).off + 6, none⟩ = some (.int .u64 ((rd_T28 x9_9 x11_2).f6))) (ds := []) #[false, false, false, false, false, false, false, false, false, false, false, false, false, false, false, false, false, false, false, false, false, false, false, false, false, false, false, false, false, false, false, false, false, false, false, false, false, false, false, false, false, false, false, false, false, false, false, false, false, false, false] (by kernel_rfl) rfl rfl ⟨cE BK102 0, cE BK102 1, cE BK102 2, hx135_0, hx135_1, hx135_2, hx135_3, hx135_4, hx135_5, hx135_6, hx137_0, hx137_1, hx137_2, hx137_3, hx137_4, hx137_5, hx137_6, hx139_0, hx139_1, hx139_2, hx139_3, hx139_4, hx139_5, hx139_6, hx147_0, hx147_1, hx147_2, hx147_3, hx147_4, hx147_5, hx147_6, hx155_0, hx155_1, hx155_2, hx155_3, hx155_4, hx155_5, hx155_6, hx157_0, hx157_1, hx157_2, hx157_3, hx157_4, hx157_5, hx157_6⟩ (fun hHeld => ?_); refine with_tabW parolelaw32_FieldMatchesReference.tab11 parolelaw32_FieldMatchesReference.bits11 (fun HT_ HW_ => ?_)
          generalize wr.drew = w45 at HO_8 HO_9 BK101 BK102 BK103 HB hx135_0 hx135_1 hx135_2 hx135_3 hx135_4 hx135_5 hx135_6 hx137_0 hx137_1 hx137_2 hx137_3 hx137_4 hx137_5 hx137_6 hx139_0 hx139_1 hx139_2 hx139_3 hx139_4 hx139_5 hx139_6 hx147_0 hx147_1 hx147_2 hx147_3 hx147_4 hx147_5 hx147_6 hx155_0 hx155_1 hx155_2 hx155_3 hx155_4 hx155_5 hx155_6 hx157_0 hx157_1 hx157_2 hx157_3 hx157_4 hx157_5 hx157_6 hHeld ⊢
          refine pX (i := 0) (N := some 51) rfl rfl HT_ ?_
          refine pX (i := 3) (N := some 54) rfl rfl HT_ ?_
          refine pX (i := 4) (N := some 55) rfl rfl HT_ ?_
          refine pX (i := 5) (N := some 56) rfl rfl HT_ ?_
          refine pX (i := 8) (N := some 59) rfl rfl HT_ ?_
          refine pX (i := 11) (N := some 62) rfl rfl HT_ ?_
          refine pX (i := 12) (N := some 63) rfl rfl HT_ ?_
          refine pX (i := 13) (N := some 64) rfl rfl HT_ ?_
          refine tX (i := 1) (N := some 52) rfl rfl HT_ HW_ hHeld (Or.inl ⟨by rfl, by rintro w' ⟨s0, s1, s2, s3, s4, s5, s6, s7, s8, s9, s10, s11, s12, s13, s14, s15, s16, s17, s18, s19, s20, s21, s22, s23, s24, s25, s26, s27, s28, s29, s30, s31, s32, s33, s34, s35, s36, s37, s38, s39, s40, s41, s42, s43, s44⟩; go_simp; with_reducible rfl⟩) ?_
          refine pX (i := 2) (N := some 53) rfl rfl HT_ ?_
          refine tX (i := 6) (N := some 57) rfl rfl HT_ HW_ hHeld (Or.inl ⟨by rfl, by rintro w' ⟨s0, s1, s2, s3, s4, s5, s6, s7, s8, s9, s10, s11, s12, s13, s14, s15, s16, s17, s18, s19, s20, s21, s22, s23, s24, s25, s26, s27, s28, s29, s30, s31, s32, s33, s34, s35, s36, s37, s38, s39, s40, s41, s42, s43, s44⟩; go_simp; with_reducible rfl⟩) ?_
          refine tX (i := 9) (N := some 60) rfl rfl HT_ HW_ hHeld (Or.inl ⟨by rfl, by rintro w' ⟨s0, s1, s2, s3, s4, s5, s6, s7, s8, s9, s10, s11, s12, s13, s14, s15, s16, s17, s18, s19, s20, s21, s22, s23, s24, s25, s26, s27, s28, s29, s30, s31, s32, s33, s34, s35, s36, s37, s38, s39, s40, s41, s42, s43, s44⟩; go_simp; with_reducible rfl⟩) ?_
          refine pX (i := 10) (N := some 61) rfl rfl HT_ ?_
          refine tX (i := 14) (N := some 65) rfl rfl HT_ HW_ hHeld (Or.inl ⟨by rfl, by rintro w' ⟨s0, s1, s2, s3, s4, s5, s6, s7, s8, s9, s10, s11, s12, s13, s14, s15, s16, s17, s18, s19, s20, s21, s22, s23, s24, s25, s26, s27, s28, s29, s30, s31, s32, s33, s34, s35, s36, s37, s38, s39, s40, s41, s42, s43, s44⟩; go_simp; with_reducible rfl⟩) ?_
          refine oX (i := 7) (N := some 58) rfl rfl HT_ (fun K hK => ?_)
          refine gS Try.func14 #[.int .u64 (IntKind.u64.wrap (a1_2)), .agg #[.int .i64 ((rd_T28 x9_9 x11_2).f0), .int .i64 ((rd_T28 x9_9 x11_2).f1), .int .i64 ((rd_T28 x9_9 x11_2).f2), .int .i64 ((rd_T28 x9_9 x11_2).f3), .int .i64 ((rd_T28 x9_9 x11_2).f4), .int .i64 ((rd_T28 x9_9 x11_2).f5), .int .u64 ((rd_T28 x9_9 x11_2).f6)]] ?_
          with_reducible refine (field_Tag.calls k2 (IntKind.u64.wrap (a1_2)) ((rd_T28 x9_9 x11_2).f0) ((rd_T28 x9_9 x11_2).f1) ((rd_T28 x9_9 x11_2).f2) ((rd_T28 x9_9 x11_2).f3) ((rd_T28 x9_9 x11_2).f4) ((rd_T28 x9_9 x11_2).f5) ((rd_T28 x9_9 x11_2).f6) t136 _ A36.out).mono ?_
          rintro e w46 ⟨rfl, hb⟩
          have HS3_ := (hb.cell (World.block_lt_of_cell? _ _ (hHeld.2.2.2.1))).trans (hHeld.2.2.2.1); have HS4_ := (hb.cell (World.block_lt_of_cell? _ _ (hHeld.2.2.2.2.1))).trans (hHeld.2.2.2.2.1); have HS5_ := (hb.cell (World.block_lt_of_cell? _ _ (hHeld.2.2.2.2.2.1))).trans (hHeld.2.2.2.2.2.1); have HS6_ := (hb.cell (World.block_lt_of_cell? _ _ (hHeld.2.2.2.2.2.2.1))).trans (hHeld.2.2.2.2.2.2.1); have HS7_ := (hb.cell (World.block_lt_of_cell? _ _ (hHeld.2.2.2.2.2.2.2.1))).trans (hHeld.2.2.2.2.2.2.2.1); have HS8_ := (hb.cell (World.block_lt_of_cell? _ _ (hHeld.2.2.2.2.2.2.2.2.1))).trans (hHeld.2.2.2.2.2.2.2.2.1); have HS9_ := (hb.cell (World.block_lt_of_cell? _ _ (hHeld.2.2.2.2.2.2.2.2.2.1))).trans (hHeld.2.2.2.2.2.2.2.2.2.1)
          have HS10_ := (hb.cell (World.block_lt_of_cell? _ _ (hHeld.2.2.2.2.2.2.2.2.2.2.1))).trans (hHeld.2.2.2.2.2.2.2.2.2.2.1); have HS11_ := (hb.cell (World.block_lt_of_cell? _ _ (hHeld.2.2.2.2.2.2.2.2.2.2.2.1))).trans (hHeld.2.2.2.2.2.2.2.2.2.2.2.1); have HS12_ := (hb.cell (World.block_lt_of_cell? _ _ (hHeld.2.2.2.2.2.2.2.2.2.2.2.2.1))).trans (hHeld.2.2.2.2.2.2.2.2.2.2.2.2.1); have HS13_ := (hb.cell (World.block_lt_of_cell? _ _ (hHeld.2.2.2.2.2.2.2.2.2.2.2.2.2.1))).trans (hHeld.2.2.2.2.2.2.2.2.2.2.2.2.2.1); have HS14_ := (hb.cell (World.block_lt_of_cell? _ _ (hHeld.2.2.2.2.2.2.2.2.2.2.2.2.2.2.1))).trans (hHeld.2.2.2.2.2.2.2.2.2.2.2.2.2.2.1); have HS15_ := (hb.cell (World.block_lt_of_cell? _ _ (hHeld.2.2.2.2.2.2.2.2.2.2.2.2.2.2.2.1))).trans (hHeld.2.2.2.2.2.2.2.2.2.2.2.2.2.2.2.1)
          have HS16_ := (hb.cell (World.block_lt_of_cell? _ _ (hHeld.2.2.2.2.2.2.2.2.2.2.2.2.2.2.2.2.1))).trans (hHeld.2.2.2.2.2.2.2.2.2.2.2.2.2.2.2.2.1); have HS17_ := (hb.cell (World.block_lt_of_cell? _ _ (hHeld.2.2.2.2.2.2.2.2.2.2.2.2.2.2.2.2.2.1))).trans (hHeld.2.2.2.2.2.2.2.2.2.2.2.2.2.2.2.2.2.1); have HS18_ := (hb.cell (World.block_lt_of_cell? _ _ (hHeld.2.2.2.2.2.2.2.2.2.2.2.2.2.2.2.2.2.2.1))).trans (hHeld.2.2.2.2.2.2.2.2.2.2.2.2.2.2.2.2.2.2.1); have HS19_ := (hb.cell (World.block_lt_of_cell? _ _ (hHeld.2.2.2.2.2.2.2.2.2.2.2.2.2.2.2.2.2.2.2.1))).trans (hHeld.2.2.2.2.2.2.2.2.2.2.2.2.2.2.2.2.2.2.2.1); have HS20_ := (hb.cell (World.block_lt_of_cell? _ _ (hHeld.2.2.2.2.2.2.2.2.2.2.2.2.2.2.2.2.2.2.2.2.1))).trans (hHeld.2.2.2.2.2.2.2.2.2.2.2.2.2.2.2.2.2.2.2.2.1)
          have HS21_ := (hb.cell (World.block_lt_of_cell? _ _ (hHeld.2.2.2.2.2.2.2.2.2.2.2.2.2.2.2.2.2.2.2.2.2.1))).trans (hHeld.2.2.2.2.2.2.2.2.2.2.2.2.2.2.2.2.2.2.2.2.2.1); have HS22_ := (hb.cell (World.block_lt_of_cell? _ _ (hHeld.2.2.2.2.2.2.2.2.2.2.2.2.2.2.2.2.2.2.2.2.2.2.1))).trans (hHeld.2.2.2.2.2.2.2.2.2.2.2.2.2.2.2.2.2.2.2.2.2.2.1); have HS23_ := (hb.cell (World.block_lt_of_cell? _ _ (hHeld.2.2.2.2.2.2.2.2.2.2.2.2.2.2.2.2.2.2.2.2.2.2.2.1))).trans (hHeld.2.2.2.2.2.2.2.2.2.2.2.2.2.2.2.2.2.2.2.2.2.2.2.1); have HS24_ := (hb.cell (World.block_lt_of_cell? _ _ (hHeld.2.2.2.2.2.2.2.2.2.2.2.2.2.2.2.2.2.2.2.2.2.2.2.2.1))).trans (hHeld.2.2.2.2.2.2.2.2.2.2.2.2.2.2.2.2.2.2.2.2.2.2.2.2.1)
          have HS25_ := (hb.cell (World.block_lt_of_cell? _ _ (hHeld.2.2.2.2.2.2.2.2.2.2.2.2.2.2.2.2.2.2.2.2.2.2.2.2.2.1))).trans (hHeld.2.2.2.2.2.2.2.2.2.2.2.2.2.2.2.2.2.2.2.2.2.2.2.2.2.1); have HS26_ := (hb.cell (World.block_lt_of_cell? _ _ (hHeld.2.2.2.2.2.2.2.2.2.2.2.2.2.2.2.2.2.2.2.2.2.2.2.2.2.2.1))).trans (hHeld.2.2.2.2.2.2.2.2.2.2.2.2.2.2.2.2.2.2.2.2.2.2.2.2.2.2.1); have HS27_ := (hb.cell (World.block_lt_of_cell? _ _ (hHeld.2.2.2.2.2.2.2.2.2.2.2.2.2.2.2.2.2.2.2.2.2.2.2.2.2.2.2.1))).trans (hHeld.2.2.2.2.2.2.2.2.2.2.2.2.2.2.2.2.2.2.2.2.2.2.2.2.2.2.2.1); have HS28_ := (hb.cell (World.block_lt_of_cell? _ _ (hHeld.2.2.2.2.2.2.2.2.2.2.2.2.2.2.2.2.2.2.2.2.2.2.2.2.2.2.2.2.1))).trans (hHeld.2.2.2.2.2.2.2.2.2.2.2.2.2.2.2.2.2.2.2.2.2.2.2.2.2.2.2.2.1)
          have HS29_ := (hb.cell (World.block_lt_of_cell? _ _ (hHeld.2.2.2.2.2.2.2.2.2.2.2.2.2.2.2.2.2.2.2.2.2.2.2.2.2.2.2.2.2.1))).trans (hHeld.2.2.2.2.2.2.2.2.2.2.2.2.2.2.2.2.2.2.2.2.2.2.2.2.2.2.2.2.2.1); have HS30_ := (hb.cell (World.block_lt_of_cell? _ _ (hHeld.2.2.2.2.2.2.2.2.2.2.2.2.2.2.2.2.2.2.2.2.2.2.2.2.2.2.2.2.2.2.1))).trans (hHeld.2.2.2.2.2.2.2.2.2.2.2.2.2.2.2.2.2.2.2.2.2.2.2.2.2.2.2.2.2.2.1); have HS31_ := (hb.cell (World.block_lt_of_cell? _ _ (hHeld.2.2.2.2.2.2.2.2.2.2.2.2.2.2.2.2.2.2.2.2.2.2.2.2.2.2.2.2.2.2.2.1))).trans (hHeld.2.2.2.2.2.2.2.2.2.2.2.2.2.2.2.2.2.2.2.2.2.2.2.2.2.2.2.2.2.2.2.1); have HS32_ := (hb.cell (World.block_lt_of_cell? _ _ (hHeld.2.2.2.2.2.2.2.2.2.2.2.2.2.2.2.2.2.2.2.2.2.2.2.2.2.2.2.2.2.2.2.2.1))).trans (hHeld.2.2.2.2.2.2.2.2.2.2.2.2.2.2.2.2.2.2.2.2.2.2.2.2.2.2.2.2.2.2.2.2.1)
          have HS33_ := (hb.cell (World.block_lt_of_cell? _ _ (hHeld.2.2.2.2.2.2.2.2.2.2.2.2.2.2.2.2.2.2.2.2.2.2.2.2.2.2.2.2.2.2.2.2.2.1))).trans (hHeld.2.2.2.2.2.2.2.2.2.2.2.2.2.2.2.2.2.2.2.2.2.2.2.2.2.2.2.2.2.2.2.2.2.1); have HS34_ := (hb.cell (World.block_lt_of_cell? _ _ (hHeld.2.2.2.2.2.2.2.2.2.2.2.2.2.2.2.2.2.2.2.2.2.2.2.2.2.2.2.2.2.2.2.2.2.2.1))).trans (hHeld.2.2.2.2.2.2.2.2.2.2.2.2.2.2.2.2.2.2.2.2.2.2.2.2.2.2.2.2.2.2.2.2.2.2.1); have HS35_ := (hb.cell (World.block_lt_of_cell? _ _ (hHeld.2.2.2.2.2.2.2.2.2.2.2.2.2.2.2.2.2.2.2.2.2.2.2.2.2.2.2.2.2.2.2.2.2.2.2.1))).trans (hHeld.2.2.2.2.2.2.2.2.2.2.2.2.2.2.2.2.2.2.2.2.2.2.2.2.2.2.2.2.2.2.2.2.2.2.2.1); have HS36_ := (hb.cell (World.block_lt_of_cell? _ _ (hHeld.2.2.2.2.2.2.2.2.2.2.2.2.2.2.2.2.2.2.2.2.2.2.2.2.2.2.2.2.2.2.2.2.2.2.2.2.1))).trans (hHeld.2.2.2.2.2.2.2.2.2.2.2.2.2.2.2.2.2.2.2.2.2.2.2.2.2.2.2.2.2.2.2.2.2.2.2.2.1)
          have HS37_ := (hb.cell (World.block_lt_of_cell? _ _ (hHeld.2.2.2.2.2.2.2.2.2.2.2.2.2.2.2.2.2.2.2.2.2.2.2.2.2.2.2.2.2.2.2.2.2.2.2.2.2.1))).trans (hHeld.2.2.2.2.2.2.2.2.2.2.2.2.2.2.2.2.2.2.2.2.2.2.2.2.2.2.2.2.2.2.2.2.2.2.2.2.2.1); have HS38_ := (hb.cell (World.block_lt_of_cell? _ _ (hHeld.2.2.2.2.2.2.2.2.2.2.2.2.2.2.2.2.2.2.2.2.2.2.2.2.2.2.2.2.2.2.2.2.2.2.2.2.2.2.1))).trans (hHeld.2.2.2.2.2.2.2.2.2.2.2.2.2.2.2.2.2.2.2.2.2.2.2.2.2.2.2.2.2.2.2.2.2.2.2.2.2.2.1); have HS39_ := (hb.cell (World.block_lt_of_cell? _ _ (hHeld.2.2.2.2.2.2.2.2.2.2.2.2.2.2.2.2.2.2.2.2.2.2.2.2.2.2.2.2.2.2.2.2.2.2.2.2.2.2.2.1))).trans (hHeld.2.2.2.2.2.2.2.2.2.2.2.2.2.2.2.2.2.2.2.2.2.2.2.2.2.2.2.2.2.2.2.2.2.2.2.2.2.2.2.1)
          have HS40_ := (hb.cell (World.block_lt_of_cell? _ _ (hHeld.2.2.2.2.2.2.2.2.2.2.2.2.2.2.2.2.2.2.2.2.2.2.2.2.2.2.2.2.2.2.2.2.2.2.2.2.2.2.2.2.1))).trans (hHeld.2.2.2.2.2.2.2.2.2.2.2.2.2.2.2.2.2.2.2.2.2.2.2.2.2.2.2.2.2.2.2.2.2.2.2.2.2.2.2.2.1); have HS41_ := (hb.cell (World.block_lt_of_cell? _ _ (hHeld.2.2.2.2.2.2.2.2.2.2.2.2.2.2.2.2.2.2.2.2.2.2.2.2.2.2.2.2.2.2.2.2.2.2.2.2.2.2.2.2.2.1))).trans (hHeld.2.2.2.2.2.2.2.2.2.2.2.2.2.2.2.2.2.2.2.2.2.2.2.2.2.2.2.2.2.2.2.2.2.2.2.2.2.2.2.2.2.1); have HS42_ := (hb.cell (World.block_lt_of_cell? _ _ (hHeld.2.2.2.2.2.2.2.2.2.2.2.2.2.2.2.2.2.2.2.2.2.2.2.2.2.2.2.2.2.2.2.2.2.2.2.2.2.2.2.2.2.2.1))).trans (hHeld.2.2.2.2.2.2.2.2.2.2.2.2.2.2.2.2.2.2.2.2.2.2.2.2.2.2.2.2.2.2.2.2.2.2.2.2.2.2.2.2.2.2.1)
          have HS43_ := (hb.cell (World.block_lt_of_cell? _ _ (hHeld.2.2.2.2.2.2.2.2.2.2.2.2.2.2.2.2.2.2.2.2.2.2.2.2.2.2.2.2.2.2.2.2.2.2.2.2.2.2.2.2.2.2.2.1))).trans (hHeld.2.2.2.2.2.2.2.2.2.2.2.2.2.2.2.2.2.2.2.2.2.2.2.2.2.2.2.2.2.2.2.2.2.2.2.2.2.2.2.2.2.2.2.1); have HS44_ := (hb.cell (World.block_lt_of_cell? _ _ (hHeld.2.2.2.2.2.2.2.2.2.2.2.2.2.2.2.2.2.2.2.2.2.2.2.2.2.2.2.2.2.2.2.2.2.2.2.2.2.2.2.2.2.2.2.2))).trans (hHeld.2.2.2.2.2.2.2.2.2.2.2.2.2.2.2.2.2.2.2.2.2.2.2.2.2.2.2.2.2.2.2.2.2.2.2.2.2.2.2.2.2.2.2.2)
          refine ⟨_, rfl, ?_⟩
          replace HO_8 := rB HO_8 hb; replace HO_9 := rB HO_9 hb; replace BK101 := bB BK101 hb; replace BK102 := bB BK102 hb; replace BK103 := bB BK103 hb; replace HB := sB HB hb; (try clear hb); (try clear hb2); (try clear hk); (try clear hi)
          refine hK.out _ _ ⟨cE BK102 0, cE BK102 1, cE BK102 2, HS3_, HS4_, HS5_, HS6_, HS7_, HS8_, HS9_, HS10_, HS11_, HS12_, HS13_, HS14_, HS15_, HS16_, HS17_, HS18_, HS19_, HS20_, HS21_, HS22_, HS23_, HS24_, HS25_, HS26_, HS27_, HS28_, HS29_, HS30_, HS31_, HS32_, HS33_, HS34_, HS35_, HS36_, HS37_, HS38_, HS39_, HS40_, HS41_, HS42_, HS43_, HS44_⟩ (fun hHeld => ?_)
          clear hK K
          refine nX (some 58) ?_
          refine oX (i := 15) (N := some 66) rfl rfl HT_ (fun K hK => ?_)
          refine gS Try.func15 #[.int .u64 (IntKind.u64.wrap (a1_2)), .agg #[.int .i64 ((rd_T28 x9_9 x11_2).f0), .int .i64 ((rd_T28 x9_9 x11_2).f1), .int .i64 ((rd_T28 x9_9 x11_2).f2), .int .i64 ((rd_T28 x9_9 x11_2).f3), .int .i64 ((rd_T28 x9_9 x11_2).f4), .int .i64 ((rd_T28 x9_9 x11_2).f5), .int .u64 ((rd_T28 x9_9 x11_2).f6)]] ?_
          with_reducible refine (paroleref32_Tag.calls k2 (IntKind.u64.wrap (a1_2)) ((rd_T28 x9_9 x11_2).f0) ((rd_T28 x9_9 x11_2).f1) ((rd_T28 x9_9 x11_2).f2) ((rd_T28 x9_9 x11_2).f3) ((rd_T28 x9_9 x11_2).f4) ((rd_T28 x9_9 x11_2).f5) ((rd_T28 x9_9 x11_2).f6) t138 _ A37.out).mono ?_
          rintro e w47 ⟨rfl, hb⟩
          have HS3_ := (hb.cell (World.block_lt_of_cell? _ _ (hHeld.2.2.2.1))).trans (hHeld.2.2.2.1); have HS4_ := (hb.cell (World.block_lt_of_cell? _ _ (hHeld.2.2.2.2.1))).trans (hHeld.2.2.2.2.1); have HS5_ := (hb.cell (World.block_lt_of_cell? _ _ (hHeld.2.2.2.2.2.1))).trans (hHeld.2.2.2.2.2.1); have HS6_ := (hb.cell (World.block_lt_of_cell? _ _ (hHeld.2.2.2.2.2.2.1))).trans (hHeld.2.2.2.2.2.2.1); have HS7_ := (hb.cell (World.block_lt_of_cell? _ _ (hHeld.2.2.2.2.2.2.2.1))).trans (hHeld.2.2.2.2.2.2.2.1); have HS8_ := (hb.cell (World.block_lt_of_cell? _ _ (hHeld.2.2.2.2.2.2.2.2.1))).trans (hHeld.2.2.2.2.2.2.2.2.1); have HS9_ := (hb.cell (World.block_lt_of_cell? _ _ (hHeld.2.2.2.2.2.2.2.2.2.1))).trans (hHeld.2.2.2.2.2.2.2.2.2.1)
          have HS10_ := (hb.cell (World.block_lt_of_cell? _ _ (hHeld.2.2.2.2.2.2.2.2.2.2.1))).trans (hHeld.2.2.2.2.2.2.2.2.2.2.1); have HS11_ := (hb.cell (World.block_lt_of_cell? _ _ (hHeld.2.2.2.2.2.2.2.2.2.2.2.1))).trans (hHeld.2.2.2.2.2.2.2.2.2.2.2.1); have HS12_ := (hb.cell (World.block_lt_of_cell? _ _ (hHeld.2.2.2.2.2.2.2.2.2.2.2.2.1))).trans (hHeld.2.2.2.2.2.2.2.2.2.2.2.2.1); have HS13_ := (hb.cell (World.block_lt_of_cell? _ _ (hHeld.2.2.2.2.2.2.2.2.2.2.2.2.2.1))).trans (hHeld.2.2.2.2.2.2.2.2.2.2.2.2.2.1); have HS14_ := (hb.cell (World.block_lt_of_cell? _ _ (hHeld.2.2.2.2.2.2.2.2.2.2.2.2.2.2.1))).trans (hHeld.2.2.2.2.2.2.2.2.2.2.2.2.2.2.1); have HS15_ := (hb.cell (World.block_lt_of_cell? _ _ (hHeld.2.2.2.2.2.2.2.2.2.2.2.2.2.2.2.1))).trans (hHeld.2.2.2.2.2.2.2.2.2.2.2.2.2.2.2.1)
          have HS16_ := (hb.cell (World.block_lt_of_cell? _ _ (hHeld.2.2.2.2.2.2.2.2.2.2.2.2.2.2.2.2.1))).trans (hHeld.2.2.2.2.2.2.2.2.2.2.2.2.2.2.2.2.1); have HS17_ := (hb.cell (World.block_lt_of_cell? _ _ (hHeld.2.2.2.2.2.2.2.2.2.2.2.2.2.2.2.2.2.1))).trans (hHeld.2.2.2.2.2.2.2.2.2.2.2.2.2.2.2.2.2.1); have HS18_ := (hb.cell (World.block_lt_of_cell? _ _ (hHeld.2.2.2.2.2.2.2.2.2.2.2.2.2.2.2.2.2.2.1))).trans (hHeld.2.2.2.2.2.2.2.2.2.2.2.2.2.2.2.2.2.2.1); have HS19_ := (hb.cell (World.block_lt_of_cell? _ _ (hHeld.2.2.2.2.2.2.2.2.2.2.2.2.2.2.2.2.2.2.2.1))).trans (hHeld.2.2.2.2.2.2.2.2.2.2.2.2.2.2.2.2.2.2.2.1); have HS20_ := (hb.cell (World.block_lt_of_cell? _ _ (hHeld.2.2.2.2.2.2.2.2.2.2.2.2.2.2.2.2.2.2.2.2.1))).trans (hHeld.2.2.2.2.2.2.2.2.2.2.2.2.2.2.2.2.2.2.2.2.1)
          have HS21_ := (hb.cell (World.block_lt_of_cell? _ _ (hHeld.2.2.2.2.2.2.2.2.2.2.2.2.2.2.2.2.2.2.2.2.2.1))).trans (hHeld.2.2.2.2.2.2.2.2.2.2.2.2.2.2.2.2.2.2.2.2.2.1); have HS22_ := (hb.cell (World.block_lt_of_cell? _ _ (hHeld.2.2.2.2.2.2.2.2.2.2.2.2.2.2.2.2.2.2.2.2.2.2.1))).trans (hHeld.2.2.2.2.2.2.2.2.2.2.2.2.2.2.2.2.2.2.2.2.2.2.1); have HS23_ := (hb.cell (World.block_lt_of_cell? _ _ (hHeld.2.2.2.2.2.2.2.2.2.2.2.2.2.2.2.2.2.2.2.2.2.2.2.1))).trans (hHeld.2.2.2.2.2.2.2.2.2.2.2.2.2.2.2.2.2.2.2.2.2.2.2.1); have HS24_ := (hb.cell (World.block_lt_of_cell? _ _ (hHeld.2.2.2.2.2.2.2.2.2.2.2.2.2.2.2.2.2.2.2.2.2.2.2.2.1))).trans (hHeld.2.2.2.2.2.2.2.2.2.2.2.2.2.2.2.2.2.2.2.2.2.2.2.2.1)
          have HS25_ := (hb.cell (World.block_lt_of_cell? _ _ (hHeld.2.2.2.2.2.2.2.2.2.2.2.2.2.2.2.2.2.2.2.2.2.2.2.2.2.1))).trans (hHeld.2.2.2.2.2.2.2.2.2.2.2.2.2.2.2.2.2.2.2.2.2.2.2.2.2.1); have HS26_ := (hb.cell (World.block_lt_of_cell? _ _ (hHeld.2.2.2.2.2.2.2.2.2.2.2.2.2.2.2.2.2.2.2.2.2.2.2.2.2.2.1))).trans (hHeld.2.2.2.2.2.2.2.2.2.2.2.2.2.2.2.2.2.2.2.2.2.2.2.2.2.2.1); have HS27_ := (hb.cell (World.block_lt_of_cell? _ _ (hHeld.2.2.2.2.2.2.2.2.2.2.2.2.2.2.2.2.2.2.2.2.2.2.2.2.2.2.2.1))).trans (hHeld.2.2.2.2.2.2.2.2.2.2.2.2.2.2.2.2.2.2.2.2.2.2.2.2.2.2.2.1); have HS28_ := (hb.cell (World.block_lt_of_cell? _ _ (hHeld.2.2.2.2.2.2.2.2.2.2.2.2.2.2.2.2.2.2.2.2.2.2.2.2.2.2.2.2.1))).trans (hHeld.2.2.2.2.2.2.2.2.2.2.2.2.2.2.2.2.2.2.2.2.2.2.2.2.2.2.2.2.1)
          have HS29_ := (hb.cell (World.block_lt_of_cell? _ _ (hHeld.2.2.2.2.2.2.2.2.2.2.2.2.2.2.2.2.2.2.2.2.2.2.2.2.2.2.2.2.2.1))).trans (hHeld.2.2.2.2.2.2.2.2.2.2.2.2.2.2.2.2.2.2.2.2.2.2.2.2.2.2.2.2.2.1); have HS30_ := (hb.cell (World.block_lt_of_cell? _ _ (hHeld.2.2.2.2.2.2.2.2.2.2.2.2.2.2.2.2.2.2.2.2.2.2.2.2.2.2.2.2.2.2.1))).trans (hHeld.2.2.2.2.2.2.2.2.2.2.2.2.2.2.2.2.2.2.2.2.2.2.2.2.2.2.2.2.2.2.1); have HS31_ := (hb.cell (World.block_lt_of_cell? _ _ (hHeld.2.2.2.2.2.2.2.2.2.2.2.2.2.2.2.2.2.2.2.2.2.2.2.2.2.2.2.2.2.2.2.1))).trans (hHeld.2.2.2.2.2.2.2.2.2.2.2.2.2.2.2.2.2.2.2.2.2.2.2.2.2.2.2.2.2.2.2.1); have HS32_ := (hb.cell (World.block_lt_of_cell? _ _ (hHeld.2.2.2.2.2.2.2.2.2.2.2.2.2.2.2.2.2.2.2.2.2.2.2.2.2.2.2.2.2.2.2.2.1))).trans (hHeld.2.2.2.2.2.2.2.2.2.2.2.2.2.2.2.2.2.2.2.2.2.2.2.2.2.2.2.2.2.2.2.2.1)
          have HS33_ := (hb.cell (World.block_lt_of_cell? _ _ (hHeld.2.2.2.2.2.2.2.2.2.2.2.2.2.2.2.2.2.2.2.2.2.2.2.2.2.2.2.2.2.2.2.2.2.1))).trans (hHeld.2.2.2.2.2.2.2.2.2.2.2.2.2.2.2.2.2.2.2.2.2.2.2.2.2.2.2.2.2.2.2.2.2.1); have HS34_ := (hb.cell (World.block_lt_of_cell? _ _ (hHeld.2.2.2.2.2.2.2.2.2.2.2.2.2.2.2.2.2.2.2.2.2.2.2.2.2.2.2.2.2.2.2.2.2.2.1))).trans (hHeld.2.2.2.2.2.2.2.2.2.2.2.2.2.2.2.2.2.2.2.2.2.2.2.2.2.2.2.2.2.2.2.2.2.2.1); have HS35_ := (hb.cell (World.block_lt_of_cell? _ _ (hHeld.2.2.2.2.2.2.2.2.2.2.2.2.2.2.2.2.2.2.2.2.2.2.2.2.2.2.2.2.2.2.2.2.2.2.2.1))).trans (hHeld.2.2.2.2.2.2.2.2.2.2.2.2.2.2.2.2.2.2.2.2.2.2.2.2.2.2.2.2.2.2.2.2.2.2.2.1); have HS36_ := (hb.cell (World.block_lt_of_cell? _ _ (hHeld.2.2.2.2.2.2.2.2.2.2.2.2.2.2.2.2.2.2.2.2.2.2.2.2.2.2.2.2.2.2.2.2.2.2.2.2.1))).trans (hHeld.2.2.2.2.2.2.2.2.2.2.2.2.2.2.2.2.2.2.2.2.2.2.2.2.2.2.2.2.2.2.2.2.2.2.2.2.1)
          have HS37_ := (hb.cell (World.block_lt_of_cell? _ _ (hHeld.2.2.2.2.2.2.2.2.2.2.2.2.2.2.2.2.2.2.2.2.2.2.2.2.2.2.2.2.2.2.2.2.2.2.2.2.2.1))).trans (hHeld.2.2.2.2.2.2.2.2.2.2.2.2.2.2.2.2.2.2.2.2.2.2.2.2.2.2.2.2.2.2.2.2.2.2.2.2.2.1); have HS38_ := (hb.cell (World.block_lt_of_cell? _ _ (hHeld.2.2.2.2.2.2.2.2.2.2.2.2.2.2.2.2.2.2.2.2.2.2.2.2.2.2.2.2.2.2.2.2.2.2.2.2.2.2.1))).trans (hHeld.2.2.2.2.2.2.2.2.2.2.2.2.2.2.2.2.2.2.2.2.2.2.2.2.2.2.2.2.2.2.2.2.2.2.2.2.2.2.1); have HS39_ := (hb.cell (World.block_lt_of_cell? _ _ (hHeld.2.2.2.2.2.2.2.2.2.2.2.2.2.2.2.2.2.2.2.2.2.2.2.2.2.2.2.2.2.2.2.2.2.2.2.2.2.2.2.1))).trans (hHeld.2.2.2.2.2.2.2.2.2.2.2.2.2.2.2.2.2.2.2.2.2.2.2.2.2.2.2.2.2.2.2.2.2.2.2.2.2.2.2.1)
          have HS40_ := (hb.cell (World.block_lt_of_cell? _ _ (hHeld.2.2.2.2.2.2.2.2.2.2.2.2.2.2.2.2.2.2.2.2.2.2.2.2.2.2.2.2.2.2.2.2.2.2.2.2.2.2.2.2.1))).trans (hHeld.2.2.2.2.2.2.2.2.2.2.2.2.2.2.2.2.2.2.2.2.2.2.2.2.2.2.2.2.2.2.2.2.2.2.2.2.2.2.2.2.1); have HS41_ := (hb.cell (World.block_lt_of_cell? _ _ (hHeld.2.2.2.2.2.2.2.2.2.2.2.2.2.2.2.2.2.2.2.2.2.2.2.2.2.2.2.2.2.2.2.2.2.2.2.2.2.2.2.2.2.1))).trans (hHeld.2.2.2.2.2.2.2.2.2.2.2.2.2.2.2.2.2.2.2.2.2.2.2.2.2.2.2.2.2.2.2.2.2.2.2.2.2.2.2.2.2.1); have HS42_ := (hb.cell (World.block_lt_of_cell? _ _ (hHeld.2.2.2.2.2.2.2.2.2.2.2.2.2.2.2.2.2.2.2.2.2.2.2.2.2.2.2.2.2.2.2.2.2.2.2.2.2.2.2.2.2.2.1))).trans (hHeld.2.2.2.2.2.2.2.2.2.2.2.2.2.2.2.2.2.2.2.2.2.2.2.2.2.2.2.2.2.2.2.2.2.2.2.2.2.2.2.2.2.2.1)
          have HS43_ := (hb.cell (World.block_lt_of_cell? _ _ (hHeld.2.2.2.2.2.2.2.2.2.2.2.2.2.2.2.2.2.2.2.2.2.2.2.2.2.2.2.2.2.2.2.2.2.2.2.2.2.2.2.2.2.2.2.1))).trans (hHeld.2.2.2.2.2.2.2.2.2.2.2.2.2.2.2.2.2.2.2.2.2.2.2.2.2.2.2.2.2.2.2.2.2.2.2.2.2.2.2.2.2.2.2.1); have HS44_ := (hb.cell (World.block_lt_of_cell? _ _ (hHeld.2.2.2.2.2.2.2.2.2.2.2.2.2.2.2.2.2.2.2.2.2.2.2.2.2.2.2.2.2.2.2.2.2.2.2.2.2.2.2.2.2.2.2.2))).trans (hHeld.2.2.2.2.2.2.2.2.2.2.2.2.2.2.2.2.2.2.2.2.2.2.2.2.2.2.2.2.2.2.2.2.2.2.2.2.2.2.2.2.2.2.2.2)
          refine ⟨_, rfl, ?_⟩
          replace HO_8 := rB HO_8 hb; replace HO_9 := rB HO_9 hb; replace BK101 := bB BK101 hb; replace BK102 := bB BK102 hb; replace BK103 := bB BK103 hb; replace HB := sB HB hb; (try clear hb); (try clear hb2); (try clear hk); (try clear hi)
          refine hK.out _ _ ⟨cE BK102 0, cE BK102 1, cE BK102 2, HS3_, HS4_, HS5_, HS6_, HS7_, HS8_, HS9_, HS10_, HS11_, HS12_, HS13_, HS14_, HS15_, HS16_, HS17_, HS18_, HS19_, HS20_, HS21_, HS22_, HS23_, HS24_, HS25_, HS26_, HS27_, HS28_, HS29_, HS30_, HS31_, HS32_, HS33_, HS34_, HS35_, HS36_, HS37_, HS38_, HS39_, HS40_, HS41_, HS42_, HS43_, HS44_⟩ (fun hHeld => ?_)
          clear hK K
          refine nX (some 66) ?_
          refine pX (i := 16) (N := some 67) rfl rfl HT_ ?_
          refine pX (i := 17) (N := some 68) rfl rfl HT_ ?_
          refine pX (i := 18) (N := some 69) rfl rfl HT_ ?_
          refine pX (i := 21) (N := some 72) rfl rfl HT_ ?_
          refine pX (i := 22) (N := some 73) rfl rfl HT_ ?_
          refine pX (i := 23) (N := some 74) rfl rfl HT_ ?_
          refine pX (i := 26) (N := some 77) rfl rfl HT_ ?_
          refine pX (i := 29) (N := some 80) rfl rfl HT_ ?_
          refine pX (i := 30) (N := some 81) rfl rfl HT_ ?_
          refine pX (i := 31) (N := some 82) rfl rfl HT_ ?_
          refine tX (i := 19) (N := some 70) rfl rfl HT_ HW_ hHeld (Or.inl ⟨by rfl, by rintro w' ⟨s0, s1, s2, s3, s4, s5, s6, s7, s8, s9, s10, s11, s12, s13, s14, s15, s16, s17, s18, s19, s20, s21, s22, s23, s24, s25, s26, s27, s28, s29, s30, s31, s32, s33, s34, s35, s36, s37, s38, s39, s40, s41, s42, s43, s44⟩; go_simp; with_reducible rfl⟩) ?_
          refine pX (i := 20) (N := some 71) rfl rfl HT_ ?_
          refine tX (i := 24) (N := some 75) rfl rfl HT_ HW_ hHeld (Or.inl ⟨by rfl, by rintro w' ⟨s0, s1, s2, s3, s4, s5, s6, s7, s8, s9, s10, s11, s12, s13, s14, s15, s16, s17, s18, s19, s20, s21, s22, s23, s24, s25, s26, s27, s28, s29, s30, s31, s32, s33, s34, s35, s36, s37, s38, s39, s40, s41, s42, s43, s44⟩; go_simp; with_reducible rfl⟩) ?_
          refine tX (i := 27) (N := some 78) rfl rfl HT_ HW_ hHeld (Or.inl ⟨by rfl, by rintro w' ⟨s0, s1, s2, s3, s4, s5, s6, s7, s8, s9, s10, s11, s12, s13, s14, s15, s16, s17, s18, s19, s20, s21, s22, s23, s24, s25, s26, s27, s28, s29, s30, s31, s32, s33, s34, s35, s36, s37, s38, s39, s40, s41, s42, s43, s44⟩; go_simp; with_reducible rfl⟩) ?_
          refine pX (i := 28) (N := some 79) rfl rfl HT_ ?_
          refine tX (i := 32) (N := some 83) rfl rfl HT_ HW_ hHeld (Or.inl ⟨by rfl, by rintro w' ⟨s0, s1, s2, s3, s4, s5, s6, s7, s8, s9, s10, s11, s12, s13, s14, s15, s16, s17, s18, s19, s20, s21, s22, s23, s24, s25, s26, s27, s28, s29, s30, s31, s32, s33, s34, s35, s36, s37, s38, s39, s40, s41, s42, s43, s44⟩; go_simp; with_reducible rfl⟩) ?_
          refine oX (i := 25) (N := some 76) rfl rfl HT_ (fun K hK => ?_)
          refine gS Try.func12 #[.int .u64 (IntKind.u64.wrap (a1_2)), .agg #[.int .i64 ((rd_T28 x9_9 x11_2).f0), .int .i64 ((rd_T28 x9_9 x11_2).f1), .int .i64 ((rd_T28 x9_9 x11_2).f2), .int .i64 ((rd_T28 x9_9 x11_2).f3), .int .i64 ((rd_T28 x9_9 x11_2).f4), .int .i64 ((rd_T28 x9_9 x11_2).f5), .int .u64 ((rd_T28 x9_9 x11_2).f6)]] ?_
          with_reducible refine (field_Sign.calls k2 (IntKind.u64.wrap (a1_2)) ((rd_T28 x9_9 x11_2).f0) ((rd_T28 x9_9 x11_2).f1) ((rd_T28 x9_9 x11_2).f2) ((rd_T28 x9_9 x11_2).f3) ((rd_T28 x9_9 x11_2).f4) ((rd_T28 x9_9 x11_2).f5) ((rd_T28 x9_9 x11_2).f6) t140 t141 t142 t143 t144 t145 t146 _ A39.out).mono ?_
          rintro e w48 ⟨rfl, hb⟩
          have HS3_ := (hb.cell (World.block_lt_of_cell? _ _ (hHeld.2.2.2.1))).trans (hHeld.2.2.2.1); have HS4_ := (hb.cell (World.block_lt_of_cell? _ _ (hHeld.2.2.2.2.1))).trans (hHeld.2.2.2.2.1); have HS5_ := (hb.cell (World.block_lt_of_cell? _ _ (hHeld.2.2.2.2.2.1))).trans (hHeld.2.2.2.2.2.1); have HS6_ := (hb.cell (World.block_lt_of_cell? _ _ (hHeld.2.2.2.2.2.2.1))).trans (hHeld.2.2.2.2.2.2.1); have HS7_ := (hb.cell (World.block_lt_of_cell? _ _ (hHeld.2.2.2.2.2.2.2.1))).trans (hHeld.2.2.2.2.2.2.2.1); have HS8_ := (hb.cell (World.block_lt_of_cell? _ _ (hHeld.2.2.2.2.2.2.2.2.1))).trans (hHeld.2.2.2.2.2.2.2.2.1); have HS9_ := (hb.cell (World.block_lt_of_cell? _ _ (hHeld.2.2.2.2.2.2.2.2.2.1))).trans (hHeld.2.2.2.2.2.2.2.2.2.1)
          have HS10_ := (hb.cell (World.block_lt_of_cell? _ _ (hHeld.2.2.2.2.2.2.2.2.2.2.1))).trans (hHeld.2.2.2.2.2.2.2.2.2.2.1); have HS11_ := (hb.cell (World.block_lt_of_cell? _ _ (hHeld.2.2.2.2.2.2.2.2.2.2.2.1))).trans (hHeld.2.2.2.2.2.2.2.2.2.2.2.1); have HS12_ := (hb.cell (World.block_lt_of_cell? _ _ (hHeld.2.2.2.2.2.2.2.2.2.2.2.2.1))).trans (hHeld.2.2.2.2.2.2.2.2.2.2.2.2.1); have HS13_ := (hb.cell (World.block_lt_of_cell? _ _ (hHeld.2.2.2.2.2.2.2.2.2.2.2.2.2.1))).trans (hHeld.2.2.2.2.2.2.2.2.2.2.2.2.2.1); have HS14_ := (hb.cell (World.block_lt_of_cell? _ _ (hHeld.2.2.2.2.2.2.2.2.2.2.2.2.2.2.1))).trans (hHeld.2.2.2.2.2.2.2.2.2.2.2.2.2.2.1); have HS15_ := (hb.cell (World.block_lt_of_cell? _ _ (hHeld.2.2.2.2.2.2.2.2.2.2.2.2.2.2.2.1))).trans (hHeld.2.2.2.2.2.2.2.2.2.2.2.2.2.2.2.1)
          have HS16_ := (hb.cell (World.block_lt_of_cell? _ _ (hHeld.2.2.2.2.2.2.2.2.2.2.2.2.2.2.2.2.1))).trans (hHeld.2.2.2.2.2.2.2.2.2.2.2.2.2.2.2.2.1); have HS17_ := (hb.cell (World.block_lt_of_cell? _ _ (hHeld.2.2.2.2.2.2.2.2.2.2.2.2.2.2.2.2.2.1))).trans (hHeld.2.2.2.2.2.2.2.2.2.2.2.2.2.2.2.2.2.1); have HS18_ := (hb.cell (World.block_lt_of_cell? _ _ (hHeld.2.2.2.2.2.2.2.2.2.2.2.2.2.2.2.2.2.2.1))).trans (hHeld.2.2.2.2.2.2.2.2.2.2.2.2.2.2.2.2.2.2.1); have HS19_ := (hb.cell (World.block_lt_of_cell? _ _ (hHeld.2.2.2.2.2.2.2.2.2.2.2.2.2.2.2.2.2.2.2.1))).trans (hHeld.2.2.2.2.2.2.2.2.2.2.2.2.2.2.2.2.2.2.2.1); have HS20_ := (hb.cell (World.block_lt_of_cell? _ _ (hHeld.2.2.2.2.2.2.2.2.2.2.2.2.2.2.2.2.2.2.2.2.1))).trans (hHeld.2.2.2.2.2.2.2.2.2.2.2.2.2.2.2.2.2.2.2.2.1)
          have HS21_ := (hb.cell (World.block_lt_of_cell? _ _ (hHeld.2.2.2.2.2.2.2.2.2.2.2.2.2.2.2.2.2.2.2.2.2.1))).trans (hHeld.2.2.2.2.2.2.2.2.2.2.2.2.2.2.2.2.2.2.2.2.2.1); have HS22_ := (hb.cell (World.block_lt_of_cell? _ _ (hHeld.2.2.2.2.2.2.2.2.2.2.2.2.2.2.2.2.2.2.2.2.2.2.1))).trans (hHeld.2.2.2.2.2.2.2.2.2.2.2.2.2.2.2.2.2.2.2.2.2.2.1); have HS23_ := (hb.cell (World.block_lt_of_cell? _ _ (hHeld.2.2.2.2.2.2.2.2.2.2.2.2.2.2.2.2.2.2.2.2.2.2.2.1))).trans (hHeld.2.2.2.2.2.2.2.2.2.2.2.2.2.2.2.2.2.2.2.2.2.2.2.1); have HS24_ := (hb.cell (World.block_lt_of_cell? _ _ (hHeld.2.2.2.2.2.2.2.2.2.2.2.2.2.2.2.2.2.2.2.2.2.2.2.2.1))).trans (hHeld.2.2.2.2.2.2.2.2.2.2.2.2.2.2.2.2.2.2.2.2.2.2.2.2.1)
          have HS25_ := (hb.cell (World.block_lt_of_cell? _ _ (hHeld.2.2.2.2.2.2.2.2.2.2.2.2.2.2.2.2.2.2.2.2.2.2.2.2.2.1))).trans (hHeld.2.2.2.2.2.2.2.2.2.2.2.2.2.2.2.2.2.2.2.2.2.2.2.2.2.1); have HS26_ := (hb.cell (World.block_lt_of_cell? _ _ (hHeld.2.2.2.2.2.2.2.2.2.2.2.2.2.2.2.2.2.2.2.2.2.2.2.2.2.2.1))).trans (hHeld.2.2.2.2.2.2.2.2.2.2.2.2.2.2.2.2.2.2.2.2.2.2.2.2.2.2.1); have HS27_ := (hb.cell (World.block_lt_of_cell? _ _ (hHeld.2.2.2.2.2.2.2.2.2.2.2.2.2.2.2.2.2.2.2.2.2.2.2.2.2.2.2.1))).trans (hHeld.2.2.2.2.2.2.2.2.2.2.2.2.2.2.2.2.2.2.2.2.2.2.2.2.2.2.2.1); have HS28_ := (hb.cell (World.block_lt_of_cell? _ _ (hHeld.2.2.2.2.2.2.2.2.2.2.2.2.2.2.2.2.2.2.2.2.2.2.2.2.2.2.2.2.1))).trans (hHeld.2.2.2.2.2.2.2.2.2.2.2.2.2.2.2.2.2.2.2.2.2.2.2.2.2.2.2.2.1)
          have HS29_ := (hb.cell (World.block_lt_of_cell? _ _ (hHeld.2.2.2.2.2.2.2.2.2.2.2.2.2.2.2.2.2.2.2.2.2.2.2.2.2.2.2.2.2.1))).trans (hHeld.2.2.2.2.2.2.2.2.2.2.2.2.2.2.2.2.2.2.2.2.2.2.2.2.2.2.2.2.2.1); have HS30_ := (hb.cell (World.block_lt_of_cell? _ _ (hHeld.2.2.2.2.2.2.2.2.2.2.2.2.2.2.2.2.2.2.2.2.2.2.2.2.2.2.2.2.2.2.1))).trans (hHeld.2.2.2.2.2.2.2.2.2.2.2.2.2.2.2.2.2.2.2.2.2.2.2.2.2.2.2.2.2.2.1); have HS31_ := (hb.cell (World.block_lt_of_cell? _ _ (hHeld.2.2.2.2.2.2.2.2.2.2.2.2.2.2.2.2.2.2.2.2.2.2.2.2.2.2.2.2.2.2.2.1))).trans (hHeld.2.2.2.2.2.2.2.2.2.2.2.2.2.2.2.2.2.2.2.2.2.2.2.2.2.2.2.2.2.2.2.1); have HS32_ := (hb.cell (World.block_lt_of_cell? _ _ (hHeld.2.2.2.2.2.2.2.2.2.2.2.2.2.2.2.2.2.2.2.2.2.2.2.2.2.2.2.2.2.2.2.2.1))).trans (hHeld.2.2.2.2.2.2.2.2.2.2.2.2.2.2.2.2.2.2.2.2.2.2.2.2.2.2.2.2.2.2.2.2.1)
          have HS33_ := (hb.cell (World.block_lt_of_cell? _ _ (hHeld.2.2.2.2.2.2.2.2.2.2.2.2.2.2.2.2.2.2.2.2.2.2.2.2.2.2.2.2.2.2.2.2.2.1))).trans (hHeld.2.2.2.2.2.2.2.2.2.2.2.2.2.2.2.2.2.2.2.2.2.2.2.2.2.2.2.2.2.2.2.2.2.1); have HS34_ := (hb.cell (World.block_lt_of_cell? _ _ (hHeld.2.2.2.2.2.2.2.2.2.2.2.2.2.2.2.2.2.2.2.2.2.2.2.2.2.2.2.2.2.2.2.2.2.2.1))).trans (hHeld.2.2.2.2.2.2.2.2.2.2.2.2.2.2.2.2.2.2.2.2.2.2.2.2.2.2.2.2.2.2.2.2.2.2.1); have HS35_ := (hb.cell (World.block_lt_of_cell? _ _ (hHeld.2.2.2.2.2.2.2.2.2.2.2.2.2.2.2.2.2.2.2.2.2.2.2.2.2.2.2.2.2.2.2.2.2.2.2.1))).trans (hHeld.2.2.2.2.2.2.2.2.2.2.2.2.2.2.2.2.2.2.2.2.2.2.2.2.2.2.2.2.2.2.2.2.2.2.2.1); have HS36_ := (hb.cell (World.block_lt_of_cell? _ _ (hHeld.2.2.2.2.2.2.2.2.2.2.2.2.2.2.2.2.2.2.2.2.2.2.2.2.2.2.2.2.2.2.2.2.2.2.2.2.1))).trans (hHeld.2.2.2.2.2.2.2.2.2.2.2.2.2.2.2.2.2.2.2.2.2.2.2.2.2.2.2.2.2.2.2.2.2.2.2.2.1)
          have HS37_ := (hb.cell (World.block_lt_of_cell? _ _ (hHeld.2.2.2.2.2.2.2.2.2.2.2.2.2.2.2.2.2.2.2.2.2.2.2.2.2.2.2.2.2.2.2.2.2.2.2.2.2.1))).trans (hHeld.2.2.2.2.2.2.2.2.2.2.2.2.2.2.2.2.2.2.2.2.2.2.2.2.2.2.2.2.2.2.2.2.2.2.2.2.2.1); have HS38_ := (hb.cell (World.block_lt_of_cell? _ _ (hHeld.2.2.2.2.2.2.2.2.2.2.2.2.2.2.2.2.2.2.2.2.2.2.2.2.2.2.2.2.2.2.2.2.2.2.2.2.2.2.1))).trans (hHeld.2.2.2.2.2.2.2.2.2.2.2.2.2.2.2.2.2.2.2.2.2.2.2.2.2.2.2.2.2.2.2.2.2.2.2.2.2.2.1); have HS39_ := (hb.cell (World.block_lt_of_cell? _ _ (hHeld.2.2.2.2.2.2.2.2.2.2.2.2.2.2.2.2.2.2.2.2.2.2.2.2.2.2.2.2.2.2.2.2.2.2.2.2.2.2.2.1))).trans (hHeld.2.2.2.2.2.2.2.2.2.2.2.2.2.2.2.2.2.2.2.2.2.2.2.2.2.2.2.2.2.2.2.2.2.2.2.2.2.2.2.1)
          have HS40_ := (hb.cell (World.block_lt_of_cell? _ _ (hHeld.2.2.2.2.2.2.2.2.2.2.2.2.2.2.2.2.2.2.2.2.2.2.2.2.2.2.2.2.2.2.2.2.2.2.2.2.2.2.2.2.1))).trans (hHeld.2.2.2.2.2.2.2.2.2.2.2.2.2.2.2.2.2.2.2.2.2.2.2.2.2.2.2.2.2.2.2.2.2.2.2.2.2.2.2.2.1); have HS41_ := (hb.cell (World.block_lt_of_cell? _ _ (hHeld.2.2.2.2.2.2.2.2.2.2.2.2.2.2.2.2.2.2.2.2.2.2.2.2.2.2.2.2.2.2.2.2.2.2.2.2.2.2.2.2.2.1))).trans (hHeld.2.2.2.2.2.2.2.2.2.2.2.2.2.2.2.2.2.2.2.2.2.2.2.2.2.2.2.2.2.2.2.2.2.2.2.2.2.2.2.2.2.1); have HS42_ := (hb.cell (World.block_lt_of_cell? _ _ (hHeld.2.2.2.2.2.2.2.2.2.2.2.2.2.2.2.2.2.2.2.2.2.2.2.2.2.2.2.2.2.2.2.2.2.2.2.2.2.2.2.2.2.2.1))).trans (hHeld.2.2.2.2.2.2.2.2.2.2.2.2.2.2.2.2.2.2.2.2.2.2.2.2.2.2.2.2.2.2.2.2.2.2.2.2.2.2.2.2.2.2.1)
          have HS43_ := (hb.cell (World.block_lt_of_cell? _ _ (hHeld.2.2.2.2.2.2.2.2.2.2.2.2.2.2.2.2.2.2.2.2.2.2.2.2.2.2.2.2.2.2.2.2.2.2.2.2.2.2.2.2.2.2.2.1))).trans (hHeld.2.2.2.2.2.2.2.2.2.2.2.2.2.2.2.2.2.2.2.2.2.2.2.2.2.2.2.2.2.2.2.2.2.2.2.2.2.2.2.2.2.2.2.1); have HS44_ := (hb.cell (World.block_lt_of_cell? _ _ (hHeld.2.2.2.2.2.2.2.2.2.2.2.2.2.2.2.2.2.2.2.2.2.2.2.2.2.2.2.2.2.2.2.2.2.2.2.2.2.2.2.2.2.2.2.2))).trans (hHeld.2.2.2.2.2.2.2.2.2.2.2.2.2.2.2.2.2.2.2.2.2.2.2.2.2.2.2.2.2.2.2.2.2.2.2.2.2.2.2.2.2.2.2.2)
          refine ⟨_, rfl, ?_⟩
          replace HO_8 := rB HO_8 hb; replace HO_9 := rB HO_9 hb; replace BK101 := bB BK101 hb; replace BK102 := bB BK102 hb; replace BK103 := bB BK103 hb; replace HB := sB HB hb; (try clear hb); (try clear hb2); (try clear hk); (try clear hi)
          refine hK.out _ _ ⟨cE BK102 0, cE BK102 1, cE BK102 2, HS3_, HS4_, HS5_, HS6_, HS7_, HS8_, HS9_, HS10_, HS11_, HS12_, HS13_, HS14_, HS15_, HS16_, HS17_, HS18_, HS19_, HS20_, HS21_, HS22_, HS23_, HS24_, HS25_, HS26_, HS27_, HS28_, HS29_, HS30_, HS31_, HS32_, HS33_, HS34_, HS35_, HS36_, HS37_, HS38_, HS39_, HS40_, HS41_, HS42_, HS43_, HS44_⟩ (fun hHeld => ?_)
          clear hK K
          refine nX (some 76) ?_
          refine oX (i := 33) (N := some 84) rfl rfl HT_ (fun K hK => ?_)
          refine gS Try.func16 #[.int .u64 (IntKind.u64.wrap (a1_2)), .agg #[.int .i64 ((rd_T28 x9_9 x11_2).f0), .int .i64 ((rd_T28 x9_9 x11_2).f1), .int .i64 ((rd_T28 x9_9 x11_2).f2), .int .i64 ((rd_T28 x9_9 x11_2).f3), .int .i64 ((rd_T28 x9_9 x11_2).f4), .int .i64 ((rd_T28 x9_9 x11_2).f5), .int .u64 ((rd_T28 x9_9 x11_2).f6)]] ?_
          with_reducible refine (paroleref32_Sign.calls k2 (IntKind.u64.wrap (a1_2)) ((rd_T28 x9_9 x11_2).f0) ((rd_T28 x9_9 x11_2).f1) ((rd_T28 x9_9 x11_2).f2) ((rd_T28 x9_9 x11_2).f3) ((rd_T28 x9_9 x11_2).f4) ((rd_T28 x9_9 x11_2).f5) ((rd_T28 x9_9 x11_2).f6) t148 t149 t150 t151 t152 t153 t154 _ A40.out).mono ?_
          rintro e w49 ⟨rfl, hb⟩
          have HS3_ := (hb.cell (World.block_lt_of_cell? _ _ (hHeld.2.2.2.1))).trans (hHeld.2.2.2.1); have HS4_ := (hb.cell (World.block_lt_of_cell? _ _ (hHeld.2.2.2.2.1))).trans (hHeld.2.2.2.2.1); have HS5_ := (hb.cell (World.block_lt_of_cell? _ _ (hHeld.2.2.2.2.2.1))).trans (hHeld.2.2.2.2.2.1); have HS6_ := (hb.cell (World.block_lt_of_cell? _ _ (hHeld.2.2.2.2.2.2.1))).trans (hHeld.2.2.2.2.2.2.1); have HS7_ := (hb.cell (World.block_lt_of_cell? _ _ (hHeld.2.2.2.2.2.2.2.1))).trans (hHeld.2.2.2.2.2.2.2.1); have HS8_ := (hb.cell (World.block_lt_of_cell? _ _ (hHeld.2.2.2.2.2.2.2.2.1))).trans (hHeld.2.2.2.2.2.2.2.2.1); have HS9_ := (hb.cell (World.block_lt_of_cell? _ _ (hHeld.2.2.2.2.2.2.2.2.2.1))).trans (hHeld.2.2.2.2.2.2.2.2.2.1)
          have HS10_ := (hb.cell (World.block_lt_of_cell? _ _ (hHeld.2.2.2.2.2.2.2.2.2.2.1))).trans (hHeld.2.2.2.2.2.2.2.2.2.2.1); have HS11_ := (hb.cell (World.block_lt_of_cell? _ _ (hHeld.2.2.2.2.2.2.2.2.2.2.2.1))).trans (hHeld.2.2.2.2.2.2.2.2.2.2.2.1); have HS12_ := (hb.cell (World.block_lt_of_cell? _ _ (hHeld.2.2.2.2.2.2.2.2.2.2.2.2.1))).trans (hHeld.2.2.2.2.2.2.2.2.2.2.2.2.1); have HS13_ := (hb.cell (World.block_lt_of_cell? _ _ (hHeld.2.2.2.2.2.2.2.2.2.2.2.2.2.1))).trans (hHeld.2.2.2.2.2.2.2.2.2.2.2.2.2.1); have HS14_ := (hb.cell (World.block_lt_of_cell? _ _ (hHeld.2.2.2.2.2.2.2.2.2.2.2.2.2.2.1))).trans (hHeld.2.2.2.2.2.2.2.2.2.2.2.2.2.2.1); have HS15_ := (hb.cell (World.block_lt_of_cell? _ _ (hHeld.2.2.2.2.2.2.2.2.2.2.2.2.2.2.2.1))).trans (hHeld.2.2.2.2.2.2.2.2.2.2.2.2.2.2.2.1)
          have HS16_ := (hb.cell (World.block_lt_of_cell? _ _ (hHeld.2.2.2.2.2.2.2.2.2.2.2.2.2.2.2.2.1))).trans (hHeld.2.2.2.2.2.2.2.2.2.2.2.2.2.2.2.2.1); have HS17_ := (hb.cell (World.block_lt_of_cell? _ _ (hHeld.2.2.2.2.2.2.2.2.2.2.2.2.2.2.2.2.2.1))).trans (hHeld.2.2.2.2.2.2.2.2.2.2.2.2.2.2.2.2.2.1); have HS18_ := (hb.cell (World.block_lt_of_cell? _ _ (hHeld.2.2.2.2.2.2.2.2.2.2.2.2.2.2.2.2.2.2.1))).trans (hHeld.2.2.2.2.2.2.2.2.2.2.2.2.2.2.2.2.2.2.1); have HS19_ := (hb.cell (World.block_lt_of_cell? _ _ (hHeld.2.2.2.2.2.2.2.2.2.2.2.2.2.2.2.2.2.2.2.1))).trans (hHeld.2.2.2.2.2.2.2.2.2.2.2.2.2.2.2.2.2.2.2.1); have HS20_ := (hb.cell (World.block_lt_of_cell? _ _ (hHeld.2.2.2.2.2.2.2.2.2.2.2.2.2.2.2.2.2.2.2.2.1))).trans (hHeld.2.2.2.2.2.2.2.2.2.2.2.2.2.2.2.2.2.2.2.2.1)
          have HS21_ := (hb.cell (World.block_lt_of_cell? _ _ (hHeld.2.2.2.2.2.2.2.2.2.2.2.2.2.2.2.2.2.2.2.2.2.1))).trans (hHeld.2.2.2.2.2.2.2.2.2.2.2.2.2.2.2.2.2.2.2.2.2.1); have HS22_ := (hb.cell (World.block_lt_of_cell? _ _ (hHeld.2.2.2.2.2.2.2.2.2.2.2.2.2.2.2.2.2.2.2.2.2.2.1))).trans (hHeld.2.2.2.2.2.2.2.2.2.2.2.2.2.2.2.2.2.2.2.2.2.2.1); have HS23_ := (hb.cell (World.block_lt_of_cell? _ _ (hHeld.2.2.2.2.2.2.2.2.2.2.2.2.2.2.2.2.2.2.2.2.2.2.2.1))).trans (hHeld.2.2.2.2.2.2.2.2.2.2.2.2.2.2.2.2.2.2.2.2.2.2.2.1); have HS24_ := (hb.cell (World.block_lt_of_cell? _ _ (hHeld.2.2.2.2.2.2.2.2.2.2.2.2.2.2.2.2.2.2.2.2.2.2.2.2.1))).trans (hHeld.2.2.2.2.2.2.2.2.2.2.2.2.2.2.2.2.2.2.2.2.2.2.2.2.1)
          have HS25_ := (hb.cell (World.block_lt_of_cell? _ _ (hHeld.2.2.2.2.2.2.2.2.2.2.2.2.2.2.2.2.2.2.2.2.2.2.2.2.2.1))).trans (hHeld.2.2.2.2.2.2.2.2.2.2.2.2.2.2.2.2.2.2.2.2.2.2.2.2.2.1); have HS26_ := (hb.cell (World.block_lt_of_cell? _ _ (hHeld.2.2.2.2.2.2.2.2.2.2.2.2.2.2.2.2.2.2.2.2.2.2.2.2.2.2.1))).trans (hHeld.2.2.2.2.2.2.2.2.2.2.2.2.2.2.2.2.2.2.2.2.2.2.2.2.2.2.1); have HS27_ := (hb.cell (World.block_lt_of_cell? _ _ (hHeld.2.2.2.2.2.2.2.2.2.2.2.2.2.2.2.2.2.2.2.2.2.2.2.2.2.2.2.1))).trans (hHeld.2.2.2.2.2.2.2.2.2.2.2.2.2.2.2.2.2.2.2.2.2.2.2.2.2.2.2.1); have HS28_ := (hb.cell (World.block_lt_of_cell? _ _ (hHeld.2.2.2.2.2.2.2.2.2.2.2.2.2.2.2.2.2.2.2.2.2.2.2.2.2.2.2.2.1))).trans (hHeld.2.2.2.2.2.2.2.2.2.2.2.2.2.2.2.2.2.2.2.2.2.2.2.2.2.2.2.2.1)
          have HS29_ := (hb.cell (World.block_lt_of_cell? _ _ (hHeld.2.2.2.2.2.2.2.2.2.2.2.2.2.2.2.2.2.2.2.2.2.2.2.2.2.2.2.2.2.1))).trans (hHeld.2.2.2.2.2.2.2.2.2.2.2.2.2.2.2.2.2.2.2.2.2.2.2.2.2.2.2.2.2.1); have HS30_ := (hb.cell (World.block_lt_of_cell? _ _ (hHeld.2.2.2.2.2.2.2.2.2.2.2.2.2.2.2.2.2.2.2.2.2.2.2.2.2.2.2.2.2.2.1))).trans (hHeld.2.2.2.2.2.2.2.2.2.2.2.2.2.2.2.2.2.2.2.2.2.2.2.2.2.2.2.2.2.2.1); have HS31_ := (hb.cell (World.block_lt_of_cell? _ _ (hHeld.2.2.2.2.2.2.2.2.2.2.2.2.2.2.2.2.2.2.2.2.2.2.2.2.2.2.2.2.2.2.2.1))).trans (hHeld.2.2.2.2.2.2.2.2.2.2.2.2.2.2.2.2.2.2.2.2.2.2.2.2.2.2.2.2.2.2.2.1); have HS32_ := (hb.cell (World.block_lt_of_cell? _ _ (hHeld.2.2.2.2.2.2.2.2.2.2.2.2.2.2.2.2.2.2.2.2.2.2.2.2.2.2.2.2.2.2.2.2.1))).trans (hHeld.2.2.2.2.2.2.2.2.2.2.2.2.2.2.2.2.2.2.2.2.2.2.2.2.2.2.2.2.2.2.2.2.1)
          have HS33_ := (hb.cell (World.block_lt_of_cell? _ _ (hHeld.2.2.2.2.2.2.2.2.2.2.2.2.2.2.2.2.2.2.2.2.2.2.2.2.2.2.2.2.2.2.2.2.2.1))).trans (hHeld.2.2.2.2.2.2.2.2.2.2.2.2.2.2.2.2.2.2.2.2.2.2.2.2.2.2.2.2.2.2.2.2.2.1); have HS34_ := (hb.cell (World.block_lt_of_cell? _ _ (hHeld.2.2.2.2.2.2.2.2.2.2.2.2.2.2.2.2.2.2.2.2.2.2.2.2.2.2.2.2.2.2.2.2.2.2.1))).trans (hHeld.2.2.2.2.2.2.2.2.2.2.2.2.2.2.2.2.2.2.2.2.2.2.2.2.2.2.2.2.2.2.2.2.2.2.1); have HS35_ := (hb.cell (World.block_lt_of_cell? _ _ (hHeld.2.2.2.2.2.2.2.2.2.2.2.2.2.2.2.2.2.2.2.2.2.2.2.2.2.2.2.2.2.2.2.2.2.2.2.1))).trans (hHeld.2.2.2.2.2.2.2.2.2.2.2.2.2.2.2.2.2.2.2.2.2.2.2.2.2.2.2.2.2.2.2.2.2.2.2.1); have HS36_ := (hb.cell (World.block_lt_of_cell? _ _ (hHeld.2.2.2.2.2.2.2.2.2.2.2.2.2.2.2.2.2.2.2.2.2.2.2.2.2.2.2.2.2.2.2.2.2.2.2.2.1))).trans (hHeld.2.2.2.2.2.2.2.2.2.2.2.2.2.2.2.2.2.2.2.2.2.2.2.2.2.2.2.2.2.2.2.2.2.2.2.2.1)
          have HS37_ := (hb.cell (World.block_lt_of_cell? _ _ (hHeld.2.2.2.2.2.2.2.2.2.2.2.2.2.2.2.2.2.2.2.2.2.2.2.2.2.2.2.2.2.2.2.2.2.2.2.2.2.1))).trans (hHeld.2.2.2.2.2.2.2.2.2.2.2.2.2.2.2.2.2.2.2.2.2.2.2.2.2.2.2.2.2.2.2.2.2.2.2.2.2.1); have HS38_ := (hb.cell (World.block_lt_of_cell? _ _ (hHeld.2.2.2.2.2.2.2.2.2.2.2.2.2.2.2.2.2.2.2.2.2.2.2.2.2.2.2.2.2.2.2.2.2.2.2.2.2.2.1))).trans (hHeld.2.2.2.2.2.2.2.2.2.2.2.2.2.2.2.2.2.2.2.2.2.2.2.2.2.2.2.2.2.2.2.2.2.2.2.2.2.2.1); have HS39_ := (hb.cell (World.block_lt_of_cell? _ _ (hHeld.2.2.2.2.2.2.2.2.2.2.2.2.2.2.2.2.2.2.2.2.2.2.2.2.2.2.2.2.2.2.2.2.2.2.2.2.2.2.2.1))).trans (hHeld.2.2.2.2.2.2.2.2.2.2.2.2.2.2.2.2.2.2.2.2.2.2.2.2.2.2.2.2.2.2.2.2.2.2.2.2.2.2.2.1)
          have HS40_ := (hb.cell (World.block_lt_of_cell? _ _ (hHeld.2.2.2.2.2.2.2.2.2.2.2.2.2.2.2.2.2.2.2.2.2.2.2.2.2.2.2.2.2.2.2.2.2.2.2.2.2.2.2.2.1))).trans (hHeld.2.2.2.2.2.2.2.2.2.2.2.2.2.2.2.2.2.2.2.2.2.2.2.2.2.2.2.2.2.2.2.2.2.2.2.2.2.2.2.2.1); have HS41_ := (hb.cell (World.block_lt_of_cell? _ _ (hHeld.2.2.2.2.2.2.2.2.2.2.2.2.2.2.2.2.2.2.2.2.2.2.2.2.2.2.2.2.2.2.2.2.2.2.2.2.2.2.2.2.2.1))).trans (hHeld.2.2.2.2.2.2.2.2.2.2.2.2.2.2.2.2.2.2.2.2.2.2.2.2.2.2.2.2.2.2.2.2.2.2.2.2.2.2.2.2.2.1); have HS42_ := (hb.cell (World.block_lt_of_cell? _ _ (hHeld.2.2.2.2.2.2.2.2.2.2.2.2.2.2.2.2.2.2.2.2.2.2.2.2.2.2.2.2.2.2.2.2.2.2.2.2.2.2.2.2.2.2.1))).trans (hHeld.2.2.2.2.2.2.2.2.2.2.2.2.2.2.2.2.2.2.2.2.2.2.2.2.2.2.2.2.2.2.2.2.2.2.2.2.2.2.2.2.2.2.1)
          have HS43_ := (hb.cell (World.block_lt_of_cell? _ _ (hHeld.2.2.2.2.2.2.2.2.2.2.2.2.2.2.2.2.2.2.2.2.2.2.2.2.2.2.2.2.2.2.2.2.2.2.2.2.2.2.2.2.2.2.2.1))).trans (hHeld.2.2.2.2.2.2.2.2.2.2.2.2.2.2.2.2.2.2.2.2.2.2.2.2.2.2.2.2.2.2.2.2.2.2.2.2.2.2.2.2.2.2.2.1); have HS44_ := (hb.cell (World.block_lt_of_cell? _ _ (hHeld.2.2.2.2.2.2.2.2.2.2.2.2.2.2.2.2.2.2.2.2.2.2.2.2.2.2.2.2.2.2.2.2.2.2.2.2.2.2.2.2.2.2.2.2))).trans (hHeld.2.2.2.2.2.2.2.2.2.2.2.2.2.2.2.2.2.2.2.2.2.2.2.2.2.2.2.2.2.2.2.2.2.2.2.2.2.2.2.2.2.2.2.2)
          refine ⟨_, rfl, ?_⟩
          replace HO_8 := rB HO_8 hb; replace HO_9 := rB HO_9 hb; replace BK101 := bB BK101 hb; replace BK102 := bB BK102 hb; replace BK103 := bB BK103 hb; replace HB := sB HB hb; (try clear hb); (try clear hb2); (try clear hk); (try clear hi)
          refine hK.out _ _ ⟨cE BK102 0, cE BK102 1, cE BK102 2, HS3_, HS4_, HS5_, HS6_, HS7_, HS8_, HS9_, HS10_, HS11_, HS12_, HS13_, HS14_, HS15_, HS16_, HS17_, HS18_, HS19_, HS20_, HS21_, HS22_, HS23_, HS24_, HS25_, HS26_, HS27_, HS28_, HS29_, HS30_, HS31_, HS32_, HS33_, HS34_, HS35_, HS36_, HS37_, HS38_, HS39_, HS40_, HS41_, HS42_, HS43_, HS44_⟩ (fun hHeld => ?_)
          clear hK K
          refine nX (some 84) ?_
          refine pX (i := 34) (N := some 85) rfl rfl HT_ ?_
          refine pX (i := 35) (N := some 86) rfl rfl HT_ ?_
          refine pX (i := 36) (N := some 87) rfl rfl HT_ ?_
          refine pX (i := 37) (N := some 88) rfl rfl HT_ ?_
          refine pX (i := 38) (N := some 89) rfl rfl HT_ ?_
          refine pX (i := 39) (N := some 90) rfl rfl HT_ ?_
          refine pX (i := 40) (N := some 91) rfl rfl HT_ ?_
          refine pX (i := 43) (N := some 94) rfl rfl HT_ ?_
          refine pX (i := 44) (N := some 95) rfl rfl HT_ ?_
          refine pX (i := 45) (N := some 96) rfl rfl HT_ ?_
          refine pX (i := 46) (N := some 97) rfl rfl HT_ ?_
          refine tX (i := 41) (N := some 92) rfl rfl HT_ HW_ hHeld (Or.inl ⟨by rfl, by rintro w' ⟨s0, s1, s2, s3, s4, s5, s6, s7, s8, s9, s10, s11, s12, s13, s14, s15, s16, s17, s18, s19, s20, s21, s22, s23, s24, s25, s26, s27, s28, s29, s30, s31, s32, s33, s34, s35, s36, s37, s38, s39, s40, s41, s42, s43, s44⟩; go_simp; with_reducible rfl⟩) ?_
          refine tX (i := 47) (N := some 98) rfl rfl HT_ HW_ hHeld (Or.inl ⟨by rfl, by rintro w' ⟨s0, s1, s2, s3, s4, s5, s6, s7, s8, s9, s10, s11, s12, s13, s14, s15, s16, s17, s18, s19, s20, s21, s22, s23, s24, s25, s26, s27, s28, s29, s30, s31, s32, s33, s34, s35, s36, s37, s38, s39, s40, s41, s42, s43, s44⟩; go_simp; with_reducible rfl⟩) ?_
          refine oX (i := 42) (N := some 93) rfl rfl HT_ (fun K hK => ?_)
          refine gS Try.func17 #[.slice (some ad112) t105.length co20, .agg #[.int .i64 ((rd_T28 x9_9 x11_2).f0), .int .i64 ((rd_T28 x9_9 x11_2).f1), .int .i64 ((rd_T28 x9_9 x11_2).f2), .int .i64 ((rd_T28 x9_9 x11_2).f3), .int .i64 ((rd_T28 x9_9 x11_2).f4), .int .i64 ((rd_T28 x9_9 x11_2).f5), .int .u64 ((rd_T28 x9_9 x11_2).f6)]] ?_
          with_reducible refine (field_Right.calls k2 _ _ t105 ((rd_T28 x9_9 x11_2).f0) ((rd_T28 x9_9 x11_2).f1) ((rd_T28 x9_9 x11_2).f2) ((rd_T28 x9_9 x11_2).f3) ((rd_T28 x9_9 x11_2).f4) ((rd_T28 x9_9 x11_2).f5) ((rd_T28 x9_9 x11_2).f6) t156 _ ?side1 ?side2 A42.out).mono ?_
          (case side1 => exact rC HO_8)
          (case side2 => exact rN HO_8)
          rintro e w50 ⟨rfl, hb⟩
          have HS3_ := (hb.cell (World.block_lt_of_cell? _ _ (hHeld.2.2.2.1))).trans (hHeld.2.2.2.1); have HS4_ := (hb.cell (World.block_lt_of_cell? _ _ (hHeld.2.2.2.2.1))).trans (hHeld.2.2.2.2.1); have HS5_ := (hb.cell (World.block_lt_of_cell? _ _ (hHeld.2.2.2.2.2.1))).trans (hHeld.2.2.2.2.2.1); have HS6_ := (hb.cell (World.block_lt_of_cell? _ _ (hHeld.2.2.2.2.2.2.1))).trans (hHeld.2.2.2.2.2.2.1); have HS7_ := (hb.cell (World.block_lt_of_cell? _ _ (hHeld.2.2.2.2.2.2.2.1))).trans (hHeld.2.2.2.2.2.2.2.1); have HS8_ := (hb.cell (World.block_lt_of_cell? _ _ (hHeld.2.2.2.2.2.2.2.2.1))).trans (hHeld.2.2.2.2.2.2.2.2.1); have HS9_ := (hb.cell (World.block_lt_of_cell? _ _ (hHeld.2.2.2.2.2.2.2.2.2.1))).trans (hHeld.2.2.2.2.2.2.2.2.2.1)
          have HS10_ := (hb.cell (World.block_lt_of_cell? _ _ (hHeld.2.2.2.2.2.2.2.2.2.2.1))).trans (hHeld.2.2.2.2.2.2.2.2.2.2.1); have HS11_ := (hb.cell (World.block_lt_of_cell? _ _ (hHeld.2.2.2.2.2.2.2.2.2.2.2.1))).trans (hHeld.2.2.2.2.2.2.2.2.2.2.2.1); have HS12_ := (hb.cell (World.block_lt_of_cell? _ _ (hHeld.2.2.2.2.2.2.2.2.2.2.2.2.1))).trans (hHeld.2.2.2.2.2.2.2.2.2.2.2.2.1); have HS13_ := (hb.cell (World.block_lt_of_cell? _ _ (hHeld.2.2.2.2.2.2.2.2.2.2.2.2.2.1))).trans (hHeld.2.2.2.2.2.2.2.2.2.2.2.2.2.1); have HS14_ := (hb.cell (World.block_lt_of_cell? _ _ (hHeld.2.2.2.2.2.2.2.2.2.2.2.2.2.2.1))).trans (hHeld.2.2.2.2.2.2.2.2.2.2.2.2.2.2.1); have HS15_ := (hb.cell (World.block_lt_of_cell? _ _ (hHeld.2.2.2.2.2.2.2.2.2.2.2.2.2.2.2.1))).trans (hHeld.2.2.2.2.2.2.2.2.2.2.2.2.2.2.2.1)
          have HS16_ := (hb.cell (World.block_lt_of_cell? _ _ (hHeld.2.2.2.2.2.2.2.2.2.2.2.2.2.2.2.2.1))).trans (hHeld.2.2.2.2.2.2.2.2.2.2.2.2.2.2.2.2.1); have HS17_ := (hb.cell (World.block_lt_of_cell? _ _ (hHeld.2.2.2.2.2.2.2.2.2.2.2.2.2.2.2.2.2.1))).trans (hHeld.2.2.2.2.2.2.2.2.2.2.2.2.2.2.2.2.2.1); have HS18_ := (hb.cell (World.block_lt_of_cell? _ _ (hHeld.2.2.2.2.2.2.2.2.2.2.2.2.2.2.2.2.2.2.1))).trans (hHeld.2.2.2.2.2.2.2.2.2.2.2.2.2.2.2.2.2.2.1); have HS19_ := (hb.cell (World.block_lt_of_cell? _ _ (hHeld.2.2.2.2.2.2.2.2.2.2.2.2.2.2.2.2.2.2.2.1))).trans (hHeld.2.2.2.2.2.2.2.2.2.2.2.2.2.2.2.2.2.2.2.1); have HS20_ := (hb.cell (World.block_lt_of_cell? _ _ (hHeld.2.2.2.2.2.2.2.2.2.2.2.2.2.2.2.2.2.2.2.2.1))).trans (hHeld.2.2.2.2.2.2.2.2.2.2.2.2.2.2.2.2.2.2.2.2.1)
          have HS21_ := (hb.cell (World.block_lt_of_cell? _ _ (hHeld.2.2.2.2.2.2.2.2.2.2.2.2.2.2.2.2.2.2.2.2.2.1))).trans (hHeld.2.2.2.2.2.2.2.2.2.2.2.2.2.2.2.2.2.2.2.2.2.1); have HS22_ := (hb.cell (World.block_lt_of_cell? _ _ (hHeld.2.2.2.2.2.2.2.2.2.2.2.2.2.2.2.2.2.2.2.2.2.2.1))).trans (hHeld.2.2.2.2.2.2.2.2.2.2.2.2.2.2.2.2.2.2.2.2.2.2.1); have HS23_ := (hb.cell (World.block_lt_of_cell? _ _ (hHeld.2.2.2.2.2.2.2.2.2.2.2.2.2.2.2.2.2.2.2.2.2.2.2.1))).trans (hHeld.2.2.2.2.2.2.2.2.2.2.2.2.2.2.2.2.2.2.2.2.2.2.2.1); have HS24_ := (hb.cell (World.block_lt_of_cell? _ _ (hHeld.2.2.2.2.2.2.2.2.2.2.2.2.2.2.2.2.2.2.2.2.2.2.2.2.1))).trans (hHeld.2.2.2.2.2.2.2.2.2.2.2.2.2.2.2.2.2.2.2.2.2.2.2.2.1)
          have HS25_ := (hb.cell (World.block_lt_of_cell? _ _ (hHeld.2.2.2.2.2.2.2.2.2.2.2.2.2.2.2.2.2.2.2.2.2.2.2.2.2.1))).trans (hHeld.2.2.2.2.2.2.2.2.2.2.2.2.2.2.2.2.2.2.2.2.2.2.2.2.2.1); have HS26_ := (hb.cell (World.block_lt_of_cell? _ _ (hHeld.2.2.2.2.2.2.2.2.2.2.2.2.2.2.2.2.2.2.2.2.2.2.2.2.2.2.1))).trans (hHeld.2.2.2.2.2.2.2.2.2.2.2.2.2.2.2.2.2.2.2.2.2.2.2.2.2.2.1); have HS27_ := (hb.cell (World.block_lt_of_cell? _ _ (hHeld.2.2.2.2.2.2.2.2.2.2.2.2.2.2.2.2.2.2.2.2.2.2.2.2.2.2.2.1))).trans (hHeld.2.2.2.2.2.2.2.2.2.2.2.2.2.2.2.2.2.2.2.2.2.2.2.2.2.2.2.1); have HS28_ := (hb.cell (World.block_lt_of_cell? _ _ (hHeld.2.2.2.2.2.2.2.2.2.2.2.2.2.2.2.2.2.2.2.2.2.2.2.2.2.2.2.2.1))).trans (hHeld.2.2.2.2.2.2.2.2.2.2.2.2.2.2.2.2.2.2.2.2.2.2.2.2.2.2.2.2.1)
          have HS29_ := (hb.cell (World.block_lt_of_cell? _ _ (hHeld.2.2.2.2.2.2.2.2.2.2.2.2.2.2.2.2.2.2.2.2.2.2.2.2.2.2.2.2.2.1))).trans (hHeld.2.2.2.2.2.2.2.2.2.2.2.2.2.2.2.2.2.2.2.2.2.2.2.2.2.2.2.2.2.1); have HS30_ := (hb.cell (World.block_lt_of_cell? _ _ (hHeld.2.2.2.2.2.2.2.2.2.2.2.2.2.2.2.2.2.2.2.2.2.2.2.2.2.2.2.2.2.2.1))).trans (hHeld.2.2.2.2.2.2.2.2.2.2.2.2.2.2.2.2.2.2.2.2.2.2.2.2.2.2.2.2.2.2.1); have HS31_ := (hb.cell (World.block_lt_of_cell? _ _ (hHeld.2.2.2.2.2.2.2.2.2.2.2.2.2.2.2.2.2.2.2.2.2.2.2.2.2.2.2.2.2.2.2.1))).trans (hHeld.2.2.2.2.2.2.2.2.2.2.2.2.2.2.2.2.2.2.2.2.2.2.2.2.2.2.2.2.2.2.2.1); have HS32_ := (hb.cell (World.block_lt_of_cell? _ _ (hHeld.2.2.2.2.2.2.2.2.2.2.2.2.2.2.2.2.2.2.2.2.2.2.2.2.2.2.2.2.2.2.2.2.1))).trans (hHeld.2.2.2.2.2.2.2.2.2.2.2.2.2.2.2.2.2.2.2.2.2.2.2.2.2.2.2.2.2.2.2.2.1)
          have HS33_ := (hb.cell (World.block_lt_of_cell? _ _ (hHeld.2.2.2.2.2.2.2.2.2.2.2.2.2.2.2.2.2.2.2.2.2.2.2.2.2.2.2.2.2.2.2.2.2.1))).trans (hHeld.2.2.2.2.2.2.2.2.2.2.2.2.2.2.2.2.2.2.2.2.2.2.2.2.2.2.2.2.2.2.2.2.2.1); have HS34_ := (hb.cell (World.block_lt_of_cell? _ _ (hHeld.2.2.2.2.2.2.2.2.2.2.2.2.2.2.2.2.2.2.2.2.2.2.2.2.2.2.2.2.2.2.2.2.2.2.1))).trans (hHeld.2.2.2.2.2.2.2.2.2.2.2.2.2.2.2.2.2.2.2.2.2.2.2.2.2.2.2.2.2.2.2.2.2.2.1); have HS35_ := (hb.cell (World.block_lt_of_cell? _ _ (hHeld.2.2.2.2.2.2.2.2.2.2.2.2.2.2.2.2.2.2.2.2.2.2.2.2.2.2.2.2.2.2.2.2.2.2.2.1))).trans (hHeld.2.2.2.2.2.2.2.2.2.2.2.2.2.2.2.2.2.2.2.2.2.2.2.2.2.2.2.2.2.2.2.2.2.2.2.1); have HS36_ := (hb.cell (World.block_lt_of_cell? _ _ (hHeld.2.2.2.2.2.2.2.2.2.2.2.2.2.2.2.2.2.2.2.2.2.2.2.2.2.2.2.2.2.2.2.2.2.2.2.2.1))).trans (hHeld.2.2.2.2.2.2.2.2.2.2.2.2.2.2.2.2.2.2.2.2.2.2.2.2.2.2.2.2.2.2.2.2.2.2.2.2.1)
          have HS37_ := (hb.cell (World.block_lt_of_cell? _ _ (hHeld.2.2.2.2.2.2.2.2.2.2.2.2.2.2.2.2.2.2.2.2.2.2.2.2.2.2.2.2.2.2.2.2.2.2.2.2.2.1))).trans (hHeld.2.2.2.2.2.2.2.2.2.2.2.2.2.2.2.2.2.2.2.2.2.2.2.2.2.2.2.2.2.2.2.2.2.2.2.2.2.1); have HS38_ := (hb.cell (World.block_lt_of_cell? _ _ (hHeld.2.2.2.2.2.2.2.2.2.2.2.2.2.2.2.2.2.2.2.2.2.2.2.2.2.2.2.2.2.2.2.2.2.2.2.2.2.2.1))).trans (hHeld.2.2.2.2.2.2.2.2.2.2.2.2.2.2.2.2.2.2.2.2.2.2.2.2.2.2.2.2.2.2.2.2.2.2.2.2.2.2.1); have HS39_ := (hb.cell (World.block_lt_of_cell? _ _ (hHeld.2.2.2.2.2.2.2.2.2.2.2.2.2.2.2.2.2.2.2.2.2.2.2.2.2.2.2.2.2.2.2.2.2.2.2.2.2.2.2.1))).trans (hHeld.2.2.2.2.2.2.2.2.2.2.2.2.2.2.2.2.2.2.2.2.2.2.2.2.2.2.2.2.2.2.2.2.2.2.2.2.2.2.2.1)
          have HS40_ := (hb.cell (World.block_lt_of_cell? _ _ (hHeld.2.2.2.2.2.2.2.2.2.2.2.2.2.2.2.2.2.2.2.2.2.2.2.2.2.2.2.2.2.2.2.2.2.2.2.2.2.2.2.2.1))).trans (hHeld.2.2.2.2.2.2.2.2.2.2.2.2.2.2.2.2.2.2.2.2.2.2.2.2.2.2.2.2.2.2.2.2.2.2.2.2.2.2.2.2.1); have HS41_ := (hb.cell (World.block_lt_of_cell? _ _ (hHeld.2.2.2.2.2.2.2.2.2.2.2.2.2.2.2.2.2.2.2.2.2.2.2.2.2.2.2.2.2.2.2.2.2.2.2.2.2.2.2.2.2.1))).trans (hHeld.2.2.2.2.2.2.2.2.2.2.2.2.2.2.2.2.2.2.2.2.2.2.2.2.2.2.2.2.2.2.2.2.2.2.2.2.2.2.2.2.2.1); have HS42_ := (hb.cell (World.block_lt_of_cell? _ _ (hHeld.2.2.2.2.2.2.2.2.2.2.2.2.2.2.2.2.2.2.2.2.2.2.2.2.2.2.2.2.2.2.2.2.2.2.2.2.2.2.2.2.2.2.1))).trans (hHeld.2.2.2.2.2.2.2.2.2.2.2.2.2.2.2.2.2.2.2.2.2.2.2.2.2.2.2.2.2.2.2.2.2.2.2.2.2.2.2.2.2.2.1)
          have HS43_ := (hb.cell (World.block_lt_of_cell? _ _ (hHeld.2.2.2.2.2.2.2.2.2.2.2.2.2.2.2.2.2.2.2.2.2.2.2.2.2.2.2.2.2.2.2.2.2.2.2.2.2.2.2.2.2.2.2.1))).trans (hHeld.2.2.2.2.2.2.2.2.2.2.2.2.2.2.2.2.2.2.2.2.2.2.2.2.2.2.2.2.2.2.2.2.2.2.2.2.2.2.2.2.2.2.2.1); have HS44_ := (hb.cell (World.block_lt_of_cell? _ _ (hHeld.2.2.2.2.2.2.2.2.2.2.2.2.2.2.2.2.2.2.2.2.2.2.2.2.2.2.2.2.2.2.2.2.2.2.2.2.2.2.2.2.2.2.2.2))).trans (hHeld.2.2.2.2.2.2.2.2.2.2.2.2.2.2.2.2.2.2.2.2.2.2.2.2.2.2.2.2.2.2.2.2.2.2.2.2.2.2.2.2.2.2.2.2)
          refine ⟨_, rfl, ?_⟩
          replace HO_8 := rB HO_8 hb; replace HO_9 := rB HO_9 hb; replace BK101 := bB BK101 hb; replace BK102 := bB BK102 hb; replace BK103 := bB BK103 hb; replace HB := sB HB hb; (try clear hb); (try clear hb2); (try clear hk); (try clear hi)
          refine hK.out _ _ ⟨cE BK102 0, cE BK102 1, cE BK102 2, HS3_, HS4_, HS5_, HS6_, HS7_, HS8_, HS9_, HS10_, HS11_, HS12_, HS13_, HS14_, HS15_, HS16_, HS17_, HS18_, HS19_, HS20_, HS21_, HS22_, HS23_, HS24_, HS25_, HS26_, HS27_, HS28_, HS29_, HS30_, HS31_, HS32_, HS33_, HS34_, HS35_, HS36_, HS37_, HS38_, HS39_, HS40_, HS41_, HS42_, HS43_, HS44_⟩ (fun hHeld => ?_)
          clear hK K
          refine nX (some 93) ?_
          refine oX (i := 48) (N := some 99) rfl rfl HT_ (fun K hK => ?_)
          refine gS Try.func18 #[.slice (some ad112) t105.length co20, .agg #[.int .i64 ((rd_T28 x9_9 x11_2).f0), .int .i64 ((rd_T28 x9_9 x11_2).f1), .int .i64 ((rd_T28 x9_9 x11_2).f2), .int .i64 ((rd_T28 x9_9 x11_2).f3), .int .i64 ((rd_T28 x9_9 x11_2).f4), .int .i64 ((rd_T28 x9_9 x11_2).f5), .int .u64 ((rd_T28 x9_9 x11_2).f6)]] ?_
          with_reducible refine (paroleref32_Right.calls k2 _ _ t105 ((rd_T28 x9_9 x11_2).f0) ((rd_T28 x9_9 x11_2).f1) ((rd_T28 x9_9 x11_2).f2) ((rd_T28 x9_9 x11_2).f3) ((rd_T28 x9_9 x11_2).f4) ((rd_T28 x9_9 x11_2).f5) ((rd_T28 x9_9 x11_2).f6) t158 _ ?side1 ?side2 A43.out).mono ?_
          (case side1 => exact rC HO_8)
          (case side2 => exact rN HO_8)
          rintro e w51 ⟨rfl, hb⟩
          have HS3_ := (hb.cell (World.block_lt_of_cell? _ _ (hHeld.2.2.2.1))).trans (hHeld.2.2.2.1); have HS4_ := (hb.cell (World.block_lt_of_cell? _ _ (hHeld.2.2.2.2.1))).trans (hHeld.2.2.2.2.1); have HS5_ := (hb.cell (World.block_lt_of_cell? _ _ (hHeld.2.2.2.2.2.1))).trans (hHeld.2.2.2.2.2.1); have HS6_ := (hb.cell (World.block_lt_of_cell? _ _ (hHeld.2.2.2.2.2.2.1))).trans (hHeld.2.2.2.2.2.2.1); have HS7_ := (hb.cell (World.block_lt_of_cell? _ _ (hHeld.2.2.2.2.2.2.2.1))).trans (hHeld.2.2.2.2.2.2.2.1); have HS8_ := (hb.cell (World.block_lt_of_cell? _ _ (hHeld.2.2.2.2.2.2.2.2.1))).trans (hHeld.2.2.2.2.2.2.2.2.1); have HS9_ := (hb.cell (World.block_lt_of_cell? _ _ (hHeld.2.2.2.2.2.2.2.2.2.1))).trans (hHeld.2.2.2.2.2.2.2.2.2.1)
          have HS10_ := (hb.cell (World.block_lt_of_cell? _ _ (hHeld.2.2.2.2.2.2.2.2.2.2.1))).trans (hHeld.2.2.2.2.2.2.2.2.2.2.1); have HS11_ := (hb.cell (World.block_lt_of_cell? _ _ (hHeld.2.2.2.2.2.2.2.2.2.2.2.1))).trans (hHeld.2.2.2.2.2.2.2.2.2.2.2.1); have HS12_ := (hb.cell (World.block_lt_of_cell? _ _ (hHeld.2.2.2.2.2.2.2.2.2.2.2.2.1))).trans (hHeld.2.2.2.2.2.2.2.2.2.2.2.2.1); have HS13_ := (hb.cell (World.block_lt_of_cell? _ _ (hHeld.2.2.2.2.2.2.2.2.2.2.2.2.2.1))).trans (hHeld.2.2.2.2.2.2.2.2.2.2.2.2.2.1); have HS14_ := (hb.cell (World.block_lt_of_cell? _ _ (hHeld.2.2.2.2.2.2.2.2.2.2.2.2.2.2.1))).trans (hHeld.2.2.2.2.2.2.2.2.2.2.2.2.2.2.1); have HS15_ := (hb.cell (World.block_lt_of_cell? _ _ (hHeld.2.2.2.2.2.2.2.2.2.2.2.2.2.2.2.1))).trans (hHeld.2.2.2.2.2.2.2.2.2.2.2.2.2.2.2.1)
          have HS16_ := (hb.cell (World.block_lt_of_cell? _ _ (hHeld.2.2.2.2.2.2.2.2.2.2.2.2.2.2.2.2.1))).trans (hHeld.2.2.2.2.2.2.2.2.2.2.2.2.2.2.2.2.1); have HS17_ := (hb.cell (World.block_lt_of_cell? _ _ (hHeld.2.2.2.2.2.2.2.2.2.2.2.2.2.2.2.2.2.1))).trans (hHeld.2.2.2.2.2.2.2.2.2.2.2.2.2.2.2.2.2.1); have HS18_ := (hb.cell (World.block_lt_of_cell? _ _ (hHeld.2.2.2.2.2.2.2.2.2.2.2.2.2.2.2.2.2.2.1))).trans (hHeld.2.2.2.2.2.2.2.2.2.2.2.2.2.2.2.2.2.2.1); have HS19_ := (hb.cell (World.block_lt_of_cell? _ _ (hHeld.2.2.2.2.2.2.2.2.2.2.2.2.2.2.2.2.2.2.2.1))).trans (hHeld.2.2.2.2.2.2.2.2.2.2.2.2.2.2.2.2.2.2.2.1); have HS20_ := (hb.cell (World.block_lt_of_cell? _ _ (hHeld.2.2.2.2.2.2.2.2.2.2.2.2.2.2.2.2.2.2.2.2.1))).trans (hHeld.2.2.2.2.2.2.2.2.2.2.2.2.2.2.2.2.2.2.2.2.1)
          have HS21_ := (hb.cell (World.block_lt_of_cell? _ _ (hHeld.2.2.2.2.2.2.2.2.2.2.2.2.2.2.2.2.2.2.2.2.2.1))).trans (hHeld.2.2.2.2.2.2.2.2.2.2.2.2.2.2.2.2.2.2.2.2.2.1); have HS22_ := (hb.cell (World.block_lt_of_cell? _ _ (hHeld.2.2.2.2.2.2.2.2.2.2.2.2.2.2.2.2.2.2.2.2.2.2.1))).trans (hHeld.2.2.2.2.2.2.2.2.2.2.2.2.2.2.2.2.2.2.2.2.2.2.1); have HS23_ := (hb.cell (World.block_lt_of_cell? _ _ (hHeld.2.2.2.2.2.2.2.2.2.2.2.2.2.2.2.2.2.2.2.2.2.2.2.1))).trans (hHeld.2.2.2.2.2.2.2.2.2.2.2.2.2.2.2.2.2.2.2.2.2.2.2.1); have HS24_ := (hb.cell (World.block_lt_of_cell? _ _ (hHeld.2.2.2.2.2.2.2.2.2.2.2.2.2.2.2.2.2.2.2.2.2.2.2.2.1))).trans (hHeld.2.2.2.2.2.2.2.2.2.2.2.2.2.2.2.2.2.2.2.2.2.2.2.2.1)
          have HS25_ := (hb.cell (World.block_lt_of_cell? _ _ (hHeld.2.2.2.2.2.2.2.2.2.2.2.2.2.2.2.2.2.2.2.2.2.2.2.2.2.1))).trans (hHeld.2.2.2.2.2.2.2.2.2.2.2.2.2.2.2.2.2.2.2.2.2.2.2.2.2.1); have HS26_ := (hb.cell (World.block_lt_of_cell? _ _ (hHeld.2.2.2.2.2.2.2.2.2.2.2.2.2.2.2.2.2.2.2.2.2.2.2.2.2.2.1))).trans (hHeld.2.2.2.2.2.2.2.2.2.2.2.2.2.2.2.2.2.2.2.2.2.2.2.2.2.2.1); have HS27_ := (hb.cell (World.block_lt_of_cell? _ _ (hHeld.2.2.2.2.2.2.2.2.2.2.2.2.2.2.2.2.2.2.2.2.2.2.2.2.2.2.2.1))).trans (hHeld.2.2.2.2.2.2.2.2.2.2.2.2.2.2.2.2.2.2.2.2.2.2.2.2.2.2.2.1); have HS28_ := (hb.cell (World.block_lt_of_cell? _ _ (hHeld.2.2.2.2.2.2.2.2.2.2.2.2.2.2.2.2.2.2.2.2.2.2.2.2.2.2.2.2.1))).trans (hHeld.2.2.2.2.2.2.2.2.2.2.2.2.2.2.2.2.2.2.2.2.2.2.2.2.2.2.2.2.1)
          have HS29_ := (hb.cell (World.block_lt_of_cell? _ _ (hHeld.2.2.2.2.2.2.2.2.2.2.2.2.2.2.2.2.2.2.2.2.2.2.2.2.2.2.2.2.2.1))).trans (hHeld.2.2.2.2.2.2.2.2.2.2.2.2.2.2.2.2.2.2.2.2.2.2.2.2.2.2.2.2.2.1); have HS30_ := (hb.cell (World.block_lt_of_cell? _ _ (hHeld.2.2.2.2.2.2.2.2.2.2.2.2.2.2.2.2.2.2.2.2.2.2.2.2.2.2.2.2.2.2.1))).trans (hHeld.2.2.2.2.2.2.2.2.2.2.2.2.2.2.2.2.2.2.2.2.2.2.2.2.2.2.2.2.2.2.1); have HS31_ := (hb.cell (World.block_lt_of_cell? _ _ (hHeld.2.2.2.2.2.2.2.2.2.2.2.2.2.2.2.2.2.2.2.2.2.2.2.2.2.2.2.2.2.2.2.1))).trans (hHeld.2.2.2.2.2.2.2.2.2.2.2.2.2.2.2.2.2.2.2.2.2.2.2.2.2.2.2.2.2.2.2.1); have HS32_ := (hb.cell (World.block_lt_of_cell? _ _ (hHeld.2.2.2.2.2.2.2.2.2.2.2.2.2.2.2.2.2.2.2.2.2.2.2.2.2.2.2.2.2.2.2.2.1))).trans (hHeld.2.2.2.2.2.2.2.2.2.2.2.2.2.2.2.2.2.2.2.2.2.2.2.2.2.2.2.2.2.2.2.2.1)
          have HS33_ := (hb.cell (World.block_lt_of_cell? _ _ (hHeld.2.2.2.2.2.2.2.2.2.2.2.2.2.2.2.2.2.2.2.2.2.2.2.2.2.2.2.2.2.2.2.2.2.1))).trans (hHeld.2.2.2.2.2.2.2.2.2.2.2.2.2.2.2.2.2.2.2.2.2.2.2.2.2.2.2.2.2.2.2.2.2.1); have HS34_ := (hb.cell (World.block_lt_of_cell? _ _ (hHeld.2.2.2.2.2.2.2.2.2.2.2.2.2.2.2.2.2.2.2.2.2.2.2.2.2.2.2.2.2.2.2.2.2.2.1))).trans (hHeld.2.2.2.2.2.2.2.2.2.2.2.2.2.2.2.2.2.2.2.2.2.2.2.2.2.2.2.2.2.2.2.2.2.2.1); have HS35_ := (hb.cell (World.block_lt_of_cell? _ _ (hHeld.2.2.2.2.2.2.2.2.2.2.2.2.2.2.2.2.2.2.2.2.2.2.2.2.2.2.2.2.2.2.2.2.2.2.2.1))).trans (hHeld.2.2.2.2.2.2.2.2.2.2.2.2.2.2.2.2.2.2.2.2.2.2.2.2.2.2.2.2.2.2.2.2.2.2.2.1); have HS36_ := (hb.cell (World.block_lt_of_cell? _ _ (hHeld.2.2.2.2.2.2.2.2.2.2.2.2.2.2.2.2.2.2.2.2.2.2.2.2.2.2.2.2.2.2.2.2.2.2.2.2.1))).trans (hHeld.2.2.2.2.2.2.2.2.2.2.2.2.2.2.2.2.2.2.2.2.2.2.2.2.2.2.2.2.2.2.2.2.2.2.2.2.1)
          have HS37_ := (hb.cell (World.block_lt_of_cell? _ _ (hHeld.2.2.2.2.2.2.2.2.2.2.2.2.2.2.2.2.2.2.2.2.2.2.2.2.2.2.2.2.2.2.2.2.2.2.2.2.2.1))).trans (hHeld.2.2.2.2.2.2.2.2.2.2.2.2.2.2.2.2.2.2.2.2.2.2.2.2.2.2.2.2.2.2.2.2.2.2.2.2.2.1); have HS38_ := (hb.cell (World.block_lt_of_cell? _ _ (hHeld.2.2.2.2.2.2.2.2.2.2.2.2.2.2.2.2.2.2.2.2.2.2.2.2.2.2.2.2.2.2.2.2.2.2.2.2.2.2.1))).trans (hHeld.2.2.2.2.2.2.2.2.2.2.2.2.2.2.2.2.2.2.2.2.2.2.2.2.2.2.2.2.2.2.2.2.2.2.2.2.2.2.1); have HS39_ := (hb.cell (World.block_lt_of_cell? _ _ (hHeld.2.2.2.2.2.2.2.2.2.2.2.2.2.2.2.2.2.2.2.2.2.2.2.2.2.2.2.2.2.2.2.2.2.2.2.2.2.2.2.1))).trans (hHeld.2.2.2.2.2.2.2.2.2.2.2.2.2.2.2.2.2.2.2.2.2.2.2.2.2.2.2.2.2.2.2.2.2.2.2.2.2.2.2.1)
          have HS40_ := (hb.cell (World.block_lt_of_cell? _ _ (hHeld.2.2.2.2.2.2.2.2.2.2.2.2.2.2.2.2.2.2.2.2.2.2.2.2.2.2.2.2.2.2.2.2.2.2.2.2.2.2.2.2.1))).trans (hHeld.2.2.2.2.2.2.2.2.2.2.2.2.2.2.2.2.2.2.2.2.2.2.2.2.2.2.2.2.2.2.2.2.2.2.2.2.2.2.2.2.1); have HS41_ := (hb.cell (World.block_lt_of_cell? _ _ (hHeld.2.2.2.2.2.2.2.2.2.2.2.2.2.2.2.2.2.2.2.2.2.2.2.2.2.2.2.2.2.2.2.2.2.2.2.2.2.2.2.2.2.1))).trans (hHeld.2.2.2.2.2.2.2.2.2.2.2.2.2.2.2.2.2.2.2.2.2.2.2.2.2.2.2.2.2.2.2.2.2.2.2.2.2.2.2.2.2.1); have HS42_ := (hb.cell (World.block_lt_of_cell? _ _ (hHeld.2.2.2.2.2.2.2.2.2.2.2.2.2.2.2.2.2.2.2.2.2.2.2.2.2.2.2.2.2.2.2.2.2.2.2.2.2.2.2.2.2.2.1))).trans (hHeld.2.2.2.2.2.2.2.2.2.2.2.2.2.2.2.2.2.2.2.2.2.2.2.2.2.2.2.2.2.2.2.2.2.2.2.2.2.2.2.2.2.2.1)
          have HS43_ := (hb.cell (World.block_lt_of_cell? _ _ (hHeld.2.2.2.2.2.2.2.2.2.2.2.2.2.2.2.2.2.2.2.2.2.2.2.2.2.2.2.2.2.2.2.2.2.2.2.2.2.2.2.2.2.2.2.1))).trans (hHeld.2.2.2.2.2.2.2.2.2.2.2.2.2.2.2.2.2.2.2.2.2.2.2.2.2.2.2.2.2.2.2.2.2.2.2.2.2.2.2.2.2.2.2.1); have HS44_ := (hb.cell (World.block_lt_of_cell? _ _ (hHeld.2.2.2.2.2.2.2.2.2.2.2.2.2.2.2.2.2.2.2.2.2.2.2.2.2.2.2.2.2.2.2.2.2.2.2.2.2.2.2.2.2.2.2.2))).trans (hHeld.2.2.2.2.2.2.2.2.2.2.2.2.2.2.2.2.2.2.2.2.2.2.2.2.2.2.2.2.2.2.2.2.2.2.2.2.2.2.2.2.2.2.2.2)
          refine ⟨_, rfl, ?_⟩
          replace HO_8 := rB HO_8 hb; replace HO_9 := rB HO_9 hb; replace BK101 := bB BK101 hb; replace BK102 := bB BK102 hb; replace BK103 := bB BK103 hb; replace HB := sB HB hb; (try clear hb); (try clear hb2); (try clear hk); (try clear hi)
          refine hK.out _ _ ⟨cE BK102 0, cE BK102 1, cE BK102 2, HS3_, HS4_, HS5_, HS6_, HS7_, HS8_, HS9_, HS10_, HS11_, HS12_, HS13_, HS14_, HS15_, HS16_, HS17_, HS18_, HS19_, HS20_, HS21_, HS22_, HS23_, HS24_, HS25_, HS26_, HS27_, HS28_, HS29_, HS30_, HS31_, HS32_, HS33_, HS34_, HS35_, HS36_, HS37_, HS38_, HS39_, HS40_, HS41_, HS42_, HS43_, HS44_⟩ (fun hHeld => ?_)
          clear hK K
          refine nX (some 99) ?_
          refine pX (i := 49) (N := some 100) rfl rfl HT_ ?_
          refine pX (i := 50) (N := some 101) rfl rfl HT_ ?_
          refine done_ (done_of HT_.out (by kernel_rfl)) ?_
          try go_wp2
          go_roundg k2
          case measure => have := HJ9.out; have := HK2.out; omega
          case rel => exact ⟨(wrap64 (x11_2 + 1)), (by first | rfl | (simp; done) | (simp [*]; done)), H', ⟨by have := HJ9.out; have := HK2.out; omega⟩, ⟨by (try simp only [hl9_9]); (with_reducible repeat (first | apply Kd.R_alloc | apply Kd.R_drewN | apply Kd.R_drew)); exact HO_8.out⟩, ⟨by (try simp only [hl9_9]); (with_reducible repeat (first | apply Kd.R_alloc | apply Kd.R_drewN | apply Kd.R_drew)); exact HO_9.out⟩, ⟨by (try simp only [hl9_9]); exact bD BK101⟩, ⟨by (try simp only [hl9_9]); exact bD BK102⟩, ⟨by (try simp only [hl9_9]); exact bD BK103⟩, ⟨sD HB⟩⟩
         ·rw [if_neg c44] at H
          have c44b0 : (t156 == t158) = false := beq_eq_false_iff_ne.mpr c44
          have c44b1 : (t156 != t158) = true := bne_iff_ne.mpr c44
          exact absurd ((Option.some.inj H).trans HT.out) (by decide)
       ·rw [if_neg c38] at H
        have c38b0 : (t136 == t138) = false := beq_eq_false_iff_ne.mpr c38
        have c38b1 : (t136 != t138) = true := bne_iff_ne.mpr c38
        exact absurd ((Option.some.inj H).trans HT.out) (by decide)
      ·rw [if_neg c35] at H
       exact absurd H (by simp)
     ·rw [if_neg c34] at H
      have c34b0 : decide (x11_2 < (x9_9.length : Int)) = false := decide_eq_false c34
      clear c34
      obtain ⟨ji52, hji52⟩ : ∃ j_ : Int, (mx (Go.bits .and .i64 a1_0 1099511627775) (Go.bits .and .i64 a1_1 1099511627775)) = j_ := ⟨_, rfl⟩
      replace H : (if true = true then ((field_Gather.f k2 t105 x9_9 t111).bind fun bt160 => ((paroleref32_Gather.f k2 t105 x9_9 t111).bind fun bt166 => (if (bt160.1 == bt166.1 && (bt160.2.1 == bt166.2.1 && (bt160.2.2.1 == bt166.2.2.1 && (bt160.2.2.2.1 == bt166.2.2.2.1 && (bt160.2.2.2.2.1 == bt166.2.2.2.2.1 && (bt160.2.2.2.2.2 == bt166.2.2.2.2.2)))))) = true then ((field_Gather.f k2 t105 x9_9 a1_2).bind fun bt172 => ((paroleref32_Gather.f k2 t105 x9_9 a1_2).bind fun bt178 => (if (bt172.1 == bt178.1 && (bt172.2.1 == bt178.2.1 && (bt172.2.2.1 == bt178.2.2.1 && (bt172.2.2.2.1 == bt178.2.2.2.1 && (bt172.2.2.2.2.1 == bt178.2.2.2.2.1 && (bt172.2.2.2.2.2 == bt178.2.2.2.2.2)))))) = true then ((parolelaw32_bound.f k2 0 0 (ji52) (mn (Go.bits .and .i64 a1_0 1099511627775) (Go.bits .and .i64 a1_1 1099511627775)) (Go.bits .and .i64 a1_2 1) 0).bind fun bt184 => ((paroleref32_BoundIn.f k2 0 0 (ji52) (mn (Go.bits .and .i64 a1_0 1099511627775) (Go.bits .and .i64 a1_1 1099511627775)) (Go.bits .and .i64 a1_2 1) 0).bind fun bt187 => (some ((bt184.1 == bt187.1 && (bt184.2.1 == bt187.2.1)) && (bt184.2.2 == bt187.2.2))))) else (some false)))) else (some false)))) else (some false)) = some r := by first | (rw [hji52] at H; exact H) | (simp only [hji52] at H ⊢; exact H)
      have hji52_ : (if (Go.bits .and .i64 a1_0 1099511627775) < (Go.bits .and .i64 a1_1 1099511627775) then (Go.bits .and .i64 a1_1 1099511627775) else (Go.bits .and .i64 a1_0 1099511627775)) = ji52 := hji52
      obtain ⟨ji53, hji53⟩ : ∃ j_ : Int, (mn (Go.bits .and .i64 a1_0 1099511627775) (Go.bits .and .i64 a1_1 1099511627775)) = j_ := ⟨_, rfl⟩
      replace H : (if true = true then ((field_Gather.f k2 t105 x9_9 t111).bind fun bt160 => ((paroleref32_Gather.f k2 t105 x9_9 t111).bind fun bt166 => (if (bt160.1 == bt166.1 && (bt160.2.1 == bt166.2.1 && (bt160.2.2.1 == bt166.2.2.1 && (bt160.2.2.2.1 == bt166.2.2.2.1 && (bt160.2.2.2.2.1 == bt166.2.2.2.2.1 && (bt160.2.2.2.2.2 == bt166.2.2.2.2.2)))))) = true then ((field_Gather.f k2 t105 x9_9 a1_2).bind fun bt172 => ((paroleref32_Gather.f k2 t105 x9_9 a1_2).bind fun bt178 => (if (bt172.1 == bt178.1 && (bt172.2.1 == bt178.2.1 && (bt172.2.2.1 == bt178.2.2.1 && (bt172.2.2.2.1 == bt178.2.2.2.1 && (bt172.2.2.2.2.1 == bt178.2.2.2.2.1 && (bt172.2.2.2.2.2 == bt178.2.2.2.2.2)))))) = true then ((parolelaw32_bound.f k2 0 0 (ji52) (ji53) (Go.bits .and .i64 a1_2 1) 0).bind fun bt184 => ((paroleref32_BoundIn.f k2 0 0 (ji52) (ji53) (Go.bits .and .i64 a1_2 1) 0).bind fun bt187 => (some ((bt184.1 == bt187.1 && (bt184.2.1 == bt187.2.1)) && (bt184.2.2 == bt187.2.2))))) else (some false)))) else (some false)))) else (some false)) = some r := by first | (rw [hji53] at H; exact H) | (simp only [hji53] at H ⊢; exact H)
      have hji53_ : (if (Go.bits .and .i64 a1_1 1099511627775) < (Go.bits .and .i64 a1_0 1099511627775) then (Go.bits .and .i64 a1_1 1099511627775) else (Go.bits .and .i64 a1_0 1099511627775)) = ji53 := hji53
      by_cases c54 : true = true
      ·clear c54
       have H1 : ((field_Gather.f k2 t105 x9_9 t111).bind fun bt160 => ((paroleref32_Gather.f k2 t105 x9_9 t111).bind fun bt166 => (if (bt160.1 == bt166.1 && (bt160.2.1 == bt166.2.1 && (bt160.2.2.1 == bt166.2.2.1 && (bt160.2.2.2.1 == bt166.2.2.2.1 && (bt160.2.2.2.2.1 == bt166.2.2.2.2.1 && (bt160.2.2.2.2.2 == bt166.2.2.2.2.2)))))) = true then ((field_Gather.f k2 t105 x9_9 a1_2).bind fun bt172 => ((paroleref32_Gather.f k2 t105 x9_9 a1_2).bind fun bt178 => (if (bt172.1 == bt178.1 && (bt172.2.1 == bt178.2.1 && (bt172.2.2.1 == bt178.2.2.1 && (bt172.2.2.2.1 == bt178.2.2.2.1 && (bt172.2.2.2.2.1 == bt178.2.2.2.2.1 && (bt172.2.2.2.2.2 == bt178.2.2.2.2.2)))))) = true then ((parolelaw32_bound.f k2 0 0 (ji52) (ji53) (Go.bits .and .i64 a1_2 1) 0).bind fun bt184 => ((paroleref32_BoundIn.f k2 0 0 (ji52) (ji53) (Go.bits .and .i64 a1_2 1) 0).bind fun bt187 => (some ((bt184.1 == bt187.1 && (bt184.2.1 == bt187.2.1)) && (bt184.2.2 == bt187.2.2))))) else (some false)))) else (some false)))) = some r := by rw [if_pos rfl] at H; exact H
       clear H; have H := H1; clear H1; replace H := Option.bind_eq_some_iff.mp H
       obtain ⟨⟨t160, t161, t162, t163, t164, t165⟩, A550, H⟩ := H
       replace H : ((paroleref32_Gather.f k2 t105 x9_9 t111).bind fun bt166 => (if (t160 == bt166.1 && (t161 == bt166.2.1 && (t162 == bt166.2.2.1 && (t163 == bt166.2.2.2.1 && (t164 == bt166.2.2.2.2.1 && (t165 == bt166.2.2.2.2.2)))))) = true then ((field_Gather.f k2 t105 x9_9 a1_2).bind fun bt172 => ((paroleref32_Gather.f k2 t105 x9_9 a1_2).bind fun bt178 => (if (bt172.1 == bt178.1 && (bt172.2.1 == bt178.2.1 && (bt172.2.2.1 == bt178.2.2.1 && (bt172.2.2.2.1 == bt178.2.2.2.1 && (bt172.2.2.2.2.1 == bt178.2.2.2.2.1 && (bt172.2.2.2.2.2 == bt178.2.2.2.2.2)))))) = true then ((parolelaw32_bound.f k2 0 0 (ji52) (ji53) (Go.bits .and .i64 a1_2 1) 0).bind fun bt184 => ((paroleref32_BoundIn.f k2 0 0 (ji52) (ji53) (Go.bits .and .i64 a1_2 1) 0).bind fun bt187 => (some ((bt184.1 == bt187.1 && (bt184.2.1 == bt187.2.1)) && (bt184.2.2 == bt187.2.2))))) else (some false)))) else (some false))) = some r := H
       have A55 := aM A550; clear A550; replace H := Option.bind_eq_some_iff.mp H
       obtain ⟨⟨t166, t167, t168, t169, t170, t171⟩, A560, H⟩ := H
       replace H : (if (t160 == t166 && (t161 == t167 && (t162 == t168 && (t163 == t169 && (t164 == t170 && (t165 == t171)))))) = true then ((field_Gather.f k2 t105 x9_9 a1_2).bind fun bt172 => ((paroleref32_Gather.f k2 t105 x9_9 a1_2).bind fun bt178 => (if (bt172.1 == bt178.1 && (bt172.2.1 == bt178.2.1 && (bt172.2.2.1 == bt178.2.2.1 && (bt172.2.2.2.1 == bt178.2.2.2.1 && (bt172.2.2.2.2.1 == bt178.2.2.2.2.1 && (bt172.2.2.2.2.2 == bt178.2.2.2.2.2)))))) = true then ((parolelaw32_bound.f k2 0 0 (ji52) (ji53) (Go.bits .and .i64 a1_2 1) 0).bind fun bt184 => ((paroleref32_BoundIn.f k2 0 0 (ji52) (ji53) (Go.bits .and .i64 a1_2 1) 0).bind fun bt187 => (some ((bt184.1 == bt187.1 && (bt184.2.1 == bt187.2.1)) && (bt184.2.2 == bt187.2.2))))) else (some false)))) else (some false)) = some r := H
       have A56 := aM A560; clear A560
       by_cases c57 : (t160 == t166 && (t161 == t167 && (t162 == t168 && (t163 == t169 && (t164 == t170 && (t165 == t171)))))) = true
       ·rw [if_pos c57] at H
        have c57b0 : (t160 == t166 && (t161 == t167 && (t162 == t168 && (t163 == t169 && (t164 == t170 && (t165 == t171)))))) = true := c57
        (try (have c57b1 : decide (t160 = t166 && (t161 == t167 && (t162 == t168 && (t163 == t169 && (t164 == t170 && (t165 == t171)))))) = true := by simpa using c57))
        (try (have c57b2 : (t160 == t166 && (t161 == t167 && (t162 == t168 && (t163 == t169 && (t164 == t170 && (t165 == t171)))))) = true := by simpa using c57))
        clear c57; replace H := Option.bind_eq_some_iff.mp H
        obtain ⟨⟨t172, t173, t174, t175, t176, t177⟩, A580, H⟩ := H
        replace H : ((paroleref32_Gather.f k2 t105 x9_9 a1_2).bind fun bt178 => (if (t172 == bt178.1 && (t173 == bt178.2.1 && (t174 == bt178.2.2.1 && (t175 == bt178.2.2.2.1 && (t176 == bt178.2.2.2.2.1 && (t177 == bt178.2.2.2.2.2)))))) = true then ((parolelaw32_bound.f k2 0 0 (ji52) (ji53) (Go.bits .and .i64 a1_2 1) 0).bind fun bt184 => ((paroleref32_BoundIn.f k2 0 0 (ji52) (ji53) (Go.bits .and .i64 a1_2 1) 0).bind fun bt187 => (some ((bt184.1 == bt187.1 && (bt184.2.1 == bt187.2.1)) && (bt184.2.2 == bt187.2.2))))) else (some false))) = some r := H
        have A58 := aM A580; clear A580; replace H := Option.bind_eq_some_iff.mp H
        obtain ⟨⟨t178, t179, t180, t181, t182, t183⟩, A590, H⟩ := H
        replace H : (if (t172 == t178 && (t173 == t179 && (t174 == t180 && (t175 == t181 && (t176 == t182 && (t177 == t183)))))) = true then ((parolelaw32_bound.f k2 0 0 (ji52) (ji53) (Go.bits .and .i64 a1_2 1) 0).bind fun bt184 => ((paroleref32_BoundIn.f k2 0 0 (ji52) (ji53) (Go.bits .and .i64 a1_2 1) 0).bind fun bt187 => (some ((bt184.1 == bt187.1 && (bt184.2.1 == bt187.2.1)) && (bt184.2.2 == bt187.2.2))))) else (some false)) = some r := H
        have A59 := aM A590; clear A590
        by_cases c60 : (t172 == t178 && (t173 == t179 && (t174 == t180 && (t175 == t181 && (t176 == t182 && (t177 == t183)))))) = true
        ·rw [if_pos c60] at H
         have c60b0 : (t172 == t178 && (t173 == t179 && (t174 == t180 && (t175 == t181 && (t176 == t182 && (t177 == t183)))))) = true := c60
         (try (have c60b1 : decide (t172 = t178 && (t173 == t179 && (t174 == t180 && (t175 == t181 && (t176 == t182 && (t177 == t183)))))) = true := by simpa using c60))
         (try (have c60b2 : (t172 == t178 && (t173 == t179 && (t174 == t180 && (t175 == t181 && (t176 == t182 && (t177 == t183)))))) = true := by simpa using c60))
         clear c60; replace H := Option.bind_eq_some_iff.mp H
         obtain ⟨⟨t184, t185, t186⟩, A610, H⟩ := H
         replace H : ((paroleref32_BoundIn.f k2 0 0 (ji52) (ji53) (Go.bits .and .i64 a1_2 1) 0).bind fun bt187 => (some ((t184 == bt187.1 && (t185 == bt187.2.1)) && (t186 == bt187.2.2)))) = some r := H
         have A61 := aM A610; clear A610; replace H := Option.bind_eq_some_iff.mp H
         obtain ⟨⟨t187, t188, t189⟩, A620, H⟩ := H
         replace H : (some ((t184 == t187 && (t185 == t188)) && (t186 == t189))) = some r := H
         have A62 := aM A620; clear A620
         obtain rfl := Option.some.inj H
         have hnb63 := NB101_102.out.symm; have hnc63 := NB101_102.out; have hnb64 := NB102_103.out; have hnc64 := NB102_103.out.symm; obtain ⟨hcz65_0, hcz65_1, hcz65_2, hfz65_0, hfz65_1, hfz65_2⟩ := cZ3 BK102
         try go_wp2_with (first | ((with_reducible refine gate_dst (N := 12) rfl ?_); refine bE (N := 12) (cs := #[.int .i64 0, .int .i64 0, .int .i64 0, .int .i64 0, .int .i64 0, .int .i64 0]) (t := 40) ?_; intro gb159 hg w66 hbox hb; have BK159 := aM (hbox); have GW159 := gE hg HB; have GE159 := gE hg HB; have NB101_159 := nL hg BK101; have NB102_159 := nL hg BK102; have NB103_159 := nL hg BK103; replace HO_8 := rB HO_8 hb; replace HO_9 := rB HO_9 hb; replace BK101 := bB BK101 hb; replace BK102 := bB BK102 hb; replace BK103 := bB BK103 hb; replace HB := sB HB hb; clear hb hbox hg; have hnb67 := NB101_159.out.symm; have hnc67 := NB101_159.out; have hnb68 := NB102_159.out.symm; have hnc68 := NB102_159.out; have hnb69 := NB103_159.out.symm; have hnc69 := NB103_159.out; obtain ⟨hcz70_0, hcz70_1, hcz70_2, hcz70_3, hcz70_4, hcz70_5, hfz70_0, hfz70_1, hfz70_2, hfz70_3, hfz70_4, hfz70_5⟩ := cZ6 BK159))
         have n0_ : Aside0 (Kd.R (Kd.int .u64) 26 ((((((w66.setCell ⟨gb159, 0, none⟩ (.int .i64 0)).setCell ⟨gb159, 1, none⟩ (.int .i64 0)).setCell ⟨gb159, 2, none⟩ (.int .i64 ji52)).setCell ⟨gb159, 3, none⟩ (.int .i64 ji53)).setCell ⟨gb159, 4, none⟩ (.int .i64 (Go.bits .and .i64 a1_2 1))).setCell ⟨gb159, 5, none⟩ (.int .i64 0)) w.heap.size (fun _ => True) (.slice (some ad112) t105.length co20) t105) := ⟨by (with_reducible repeat (first | apply Kd.R_alloc | apply Kd.R_drewN | apply Kd.R_drew)); exact Kd.R_mono (Kd.R_far (p := ⟨gb159, 5, none⟩) (Kd.R_far (p := ⟨gb159, 4, none⟩) (Kd.R_far (p := ⟨gb159, 3, none⟩) (Kd.R_far (p := ⟨gb159, 2, none⟩) (Kd.R_far (p := ⟨gb159, 1, none⟩) (Kd.R_far (p := ⟨gb159, 0, none⟩) (Kd.R_types HO_8.out BK159.out (by decide)) (fun _ hk => hk.2) (.int .i64 0)) (fun _ hk => hk.2) (.int .i64 0)) (fun _ hk => hk.2) (.int .i64 ji52)) (fun _ hk => hk.2) (.int .i64 ji53)) (fun _ hk => hk.2) (.int .i64 (Go.bits .and .i64 a1_2 1))) (fun _ hk => hk.2) (.int .i64 0)) (fun _ hk => trivial)⟩
         have n1_ : Aside0 (Kd.R k28 28 ((((((w66.setCell ⟨gb159, 0, none⟩ (.int .i64 0)).setCell ⟨gb159, 1, none⟩ (.int .i64 0)).setCell ⟨gb159, 2, none⟩ (.int .i64 ji52)).setCell ⟨gb159, 3, none⟩ (.int .i64 ji53)).setCell ⟨gb159, 4, none⟩ (.int .i64 (Go.bits .and .i64 a1_2 1))).setCell ⟨gb159, 5, none⟩ (.int .i64 0)) w.heap.size (fun k_ => k_ ≠ gb103) (.slice Ao26 x9_9.length co26) x9_9) := ⟨by (with_reducible repeat (first | apply Kd.R_alloc | apply Kd.R_drewN | apply Kd.R_drew)); exact Kd.R_mono (Kd.R_far (p := ⟨gb159, 5, none⟩) (Kd.R_far (p := ⟨gb159, 4, none⟩) (Kd.R_far (p := ⟨gb159, 3, none⟩) (Kd.R_far (p := ⟨gb159, 2, none⟩) (Kd.R_far (p := ⟨gb159, 1, none⟩) (Kd.R_far (p := ⟨gb159, 0, none⟩) (Kd.R_types HO_9.out BK159.out (by decide)) (fun _ hk => hk.2) (.int .i64 0)) (fun _ hk => hk.2) (.int .i64 0)) (fun _ hk => hk.2) (.int .i64 ji52)) (fun _ hk => hk.2) (.int .i64 ji53)) (fun _ hk => hk.2) (.int .i64 (Go.bits .and .i64 a1_2 1))) (fun _ hk => hk.2) (.int .i64 0)) (fun _ hk => hk.1)⟩
         have n2_ : Aside0 (((((((w66.setCell ⟨gb159, 0, none⟩ (.int .i64 0)).setCell ⟨gb159, 1, none⟩ (.int .i64 0)).setCell ⟨gb159, 2, none⟩ (.int .i64 ji52)).setCell ⟨gb159, 3, none⟩ (.int .i64 ji53)).setCell ⟨gb159, 4, none⟩ (.int .i64 (Go.bits .and .i64 a1_2 1))).setCell ⟨gb159, 5, none⟩ (.int .i64 0)).heap[gb101]? = some (.cells #[.int .u8 a0_0, .slice A0_1 l0_1.length c0_1, .int .u8 a0_2] 24 (0, 0))) := ⟨bF BK101⟩
         have n3_ : Aside0 (((((((w66.setCell ⟨gb159, 0, none⟩ (.int .i64 0)).setCell ⟨gb159, 1, none⟩ (.int .i64 0)).setCell ⟨gb159, 2, none⟩ (.int .i64 ji52)).setCell ⟨gb159, 3, none⟩ (.int .i64 ji53)).setCell ⟨gb159, 4, none⟩ (.int .i64 (Go.bits .and .i64 a1_2 1))).setCell ⟨gb159, 5, none⟩ (.int .i64 0)).heap[gb102]? = some (.cells #[.int .i64 a1_0, .int .i64 a1_1, .int .i64 a1_2] 25 (0, 0))) := ⟨bF BK102⟩
         have n4_ : Aside0 (((((((w66.setCell ⟨gb159, 0, none⟩ (.int .i64 0)).setCell ⟨gb159, 1, none⟩ (.int .i64 0)).setCell ⟨gb159, 2, none⟩ (.int .i64 ji52)).setCell ⟨gb159, 3, none⟩ (.int .i64 ji53)).setCell ⟨gb159, 4, none⟩ (.int .i64 (Go.bits .and .i64 a1_2 1))).setCell ⟨gb159, 5, none⟩ (.int .i64 0)).heap[gb103]? = some (.cells #[.int .i64 x104000_9, .int .i64 x104001_9, .int .i64 x104002_9, .int .i64 x104003_9, .int .i64 x104004_9, .int .i64 x104005_9, .int .u64 x104006_9] 28 (0, 0))) := ⟨bF BK103⟩
         have n5_ : Aside0 (((((((w66.setCell ⟨gb159, 0, none⟩ (.int .i64 0)).setCell ⟨gb159, 1, none⟩ (.int .i64 0)).setCell ⟨gb159, 2, none⟩ (.int .i64 ji52)).setCell ⟨gb159, 3, none⟩ (.int .i64 ji53)).setCell ⟨gb159, 4, none⟩ (.int .i64 (Go.bits .and .i64 a1_2 1))).setCell ⟨gb159, 5, none⟩ (.int .i64 0)).heap[gb159]? = some (.cells #[.int .i64 0, .int .i64 0, .int .i64 ji52, .int .i64 ji53, .int .i64 (Go.bits .and .i64 a1_2 1), .int .i64 0] 40 (0, 0))) := ⟨by refine bM ?_; refine blk_put (cs := #[.int .i64 0, .int .i64 0, .int .i64 ji52, .int .i64 ji53, .int .i64 (Go.bits .and .i64 a1_2 1), .int .i64 0]) ?_ 5 _ rfl; refine bM ?_; refine blk_put (cs := #[.int .i64 0, .int .i64 0, .int .i64 ji52, .int .i64 ji53, .int .i64 0, .int .i64 0]) ?_ 4 _ rfl; refine bM ?_; refine blk_put (cs := #[.int .i64 0, .int .i64 0, .int .i64 ji52, .int .i64 0, .int .i64 0, .int .i64 0]) ?_ 3 _ rfl; refine bM ?_; refine blk_put (cs := #[.int .i64 0, .int .i64 0, .int .i64 0, .int .i64 0, .int .i64 0, .int .i64 0]) ?_ 2 _ rfl; refine bM ?_; refine blk_put (cs := #[.int .i64 0, .int .i64 0, .int .i64 0, .int .i64 0, .int .i64 0, .int .i64 0]) ?_ 1 _ rfl; refine bM ?_; refine blk_put (cs := #[.int .i64 0, .int .i64 0, .int .i64 0, .int .i64 0, .int .i64 0, .int .i64 0]) ?_ 0 _ rfl; exact bD BK159⟩
         have n6_ : Aside0 (Below w.heap.size w ((((((w66.setCell ⟨gb159, 0, none⟩ (.int .i64 0)).setCell ⟨gb159, 1, none⟩ (.int .i64 0)).setCell ⟨gb159, 2, none⟩ (.int .i64 ji52)).setCell ⟨gb159, 3, none⟩ (.int .i64 ji53)).setCell ⟨gb159, 4, none⟩ (.int .i64 (Go.bits .and .i64 a1_2 1))).setCell ⟨gb159, 5, none⟩ (.int .i64 0))) := ⟨sD HB⟩
         (try clear HO_8); (try clear HO_9); (try clear BK101); (try clear BK102); (try clear BK103); (try clear BK159); (try clear HB)
         generalize ((((((w66.setCell ⟨gb159, 0, none⟩ (.int .i64 0)).setCell ⟨gb159, 1, none⟩ (.int .i64 0)).setCell ⟨gb159, 2, none⟩ (.int .i64 ji52)).setCell ⟨gb159, 3, none⟩ (.int .i64 ji53)).setCell ⟨gb159, 4, none⟩ (.int .i64 (Go.bits .and .i64 a1_2 1))).setCell ⟨gb159, 5, none⟩ (.int .i64 0)) = w71 at n0_ n1_ n2_ n3_ n4_ n5_ n6_ ⊢
         have HO_8 := n0_; have HO_9 := n1_; have BK101 := n2_; have BK102 := n3_; have BK103 := n4_; have BK159 := n5_; have HB := n6_; clear n0_ n1_ n2_ n3_ n4_ n5_ n6_; replace HO_8 := aM (Kd.R_drew HO_8.out); replace HO_9 := aM (Kd.R_drew HO_9.out); replace BK101 := aM (blk_drew BK101.out); replace BK102 := aM (blk_drew BK102.out); replace BK103 := aM (blk_drew BK103.out); replace BK159 := aM (blk_drew BK159.out); replace HB := aM (below_drew1 HB.out)
         refine start_ (n := 33) (S := fun w' => w'.cell? ⟨gb102, 0, none⟩ = some (.int .i64 a1_0) ∧ w'.cell? ⟨gb102, 1, none⟩ = some (.int .i64 a1_1) ∧ w'.cell? ⟨gb102, 2, none⟩ = some (.int .i64 a1_2) ∧ w'.cell? ⟨gb159, 0, none⟩ = some (.int .i64 0) ∧ w'.cell? ⟨gb159, 1, none⟩ = some (.int .i64 0) ∧ w'.cell? ⟨gb159, 2, none⟩ = some (.int .i64 ji52) ∧ w'.cell? ⟨gb159, 3, none⟩ = some (.int .i64 ji53) ∧ w'.cell? ⟨gb159, 4, none⟩ = some (.int .i64 (Go.bits .and .i64 a1_2 1)) ∧ w'.cell? ⟨gb159, 5, none⟩ = some (.int .i64 0)) (ds := []) #[false, false, false, false, false, false, false, false, false, false, false, false, false, false, false, false, false, false, false, false, false, false, false, false, false, false, false, false, false, false, false, false, false] (by kernel_rfl) rfl rfl ⟨cE BK102 0, cE BK102 1, cE BK102 2, cE BK159 0, cE BK159 1, cE BK159 2, cE BK159 3, cE BK159 4, cE BK159 5⟩ (fun hHeld => ?_); refine with_tabW parolelaw32_FieldMatchesReference.tab14 parolelaw32_FieldMatchesReference.bits14 (fun HT_ HW_ => ?_)
         generalize w71.drew = w72 at HO_8 HO_9 BK101 BK102 BK103 BK159 HB hHeld ⊢
         refine pX (i := 0) (N := some 120) rfl rfl HT_ ?_
         refine pX (i := 1) (N := some 121) rfl rfl HT_ ?_
         refine pX (i := 2) (N := some 122) rfl rfl HT_ ?_
         refine pX (i := 3) (N := some 123) rfl rfl HT_ ?_
         refine pX (i := 4) (N := some 124) rfl rfl HT_ ?_
         refine pX (i := 6) (N := some 126) rfl rfl HT_ ?_
         refine pX (i := 7) (N := some 127) rfl rfl HT_ ?_
         refine pX (i := 8) (N := some 128) rfl rfl HT_ ?_
         refine oX (i := 5) (N := some 125) rfl rfl HT_ (fun K hK => ?_)
         refine gS Try.func19 #[.slice (some ad112) t105.length co20, .slice Ao26 x9_9.length co26, .int .i64 t111] ?_
         with_reducible refine (field_Gather.calls k2 _ _ t105 _ _ x9_9 t111 t160 t161 t162 t163 t164 t165 _ ?side1 ?side2 ?side3 ?side4 A55.out).mono ?_
         (case side1 => exact rC HO_8)
         (case side2 => exact rN HO_8)
         (case side3 => exact rC HO_9)
         (case side4 => exact rN HO_9)
         rintro e w73 ⟨rfl, hb⟩
         refine ⟨_, rfl, ?_⟩
         replace HO_8 := rB HO_8 hb; replace HO_9 := rB HO_9 hb; replace BK101 := bB BK101 hb; replace BK102 := bB BK102 hb; replace BK103 := bB BK103 hb; replace BK159 := bB BK159 hb; replace HB := sB HB hb; (try clear hb); (try clear hb2); (try clear hk); (try clear hi)
         refine hK.out _ _ ⟨cE BK102 0, cE BK102 1, cE BK102 2, cE BK159 0, cE BK159 1, cE BK159 2, cE BK159 3, cE BK159 4, cE BK159 5⟩ (fun hHeld => ?_)
         clear hK K
         refine nX (some 125) ?_
         refine oX (i := 9) (N := some 129) rfl rfl HT_ (fun K hK => ?_)
         refine gS Try.func20 #[.slice (some ad112) t105.length co20, .slice Ao26 x9_9.length co26, .int .i64 t111] ?_
         with_reducible refine (paroleref32_Gather.calls k2 _ _ t105 _ _ x9_9 t111 t166 t167 t168 t169 t170 t171 _ ?side1 ?side2 ?side3 ?side4 A56.out).mono ?_
         (case side1 => exact rC HO_8)
         (case side2 => exact rN HO_8)
         (case side3 => exact rC HO_9)
         (case side4 => exact rN HO_9)
         rintro e w74 ⟨rfl, hb⟩
         refine ⟨_, rfl, ?_⟩
         replace HO_8 := rB HO_8 hb; replace HO_9 := rB HO_9 hb; replace BK101 := bB BK101 hb; replace BK102 := bB BK102 hb; replace BK103 := bB BK103 hb; replace BK159 := bB BK159 hb; replace HB := sB HB hb; (try clear hb); (try clear hb2); (try clear hk); (try clear hi)
         refine hK.out _ _ ⟨cE BK102 0, cE BK102 1, cE BK102 2, cE BK159 0, cE BK159 1, cE BK159 2, cE BK159 3, cE BK159 4, cE BK159 5⟩ (fun hHeld => ?_)
         clear hK K
         refine nX (some 129) ?_
         refine pX (i := 10) (N := some 130) rfl rfl HT_ ?_
         refine pX (i := 11) (N := some 131) rfl rfl HT_ ?_
         refine pX (i := 12) (N := some 132) rfl rfl HT_ ?_
         refine pX (i := 13) (N := some 133) rfl rfl HT_ ?_
         refine pX (i := 14) (N := some 134) rfl rfl HT_ ?_
         refine pX (i := 15) (N := some 135) rfl rfl HT_ ?_
         refine pX (i := 18) (N := some 138) rfl rfl HT_ ?_
         refine pX (i := 19) (N := some 139) rfl rfl HT_ ?_
         refine pX (i := 20) (N := some 140) rfl rfl HT_ ?_
         refine tX (i := 16) (N := some 136) rfl rfl HT_ HW_ hHeld (Or.inl ⟨by rfl, by rintro w' ⟨s0, s1, s2, s3, s4, s5, s6, s7, s8⟩; go_simp; with_reducible rfl⟩) ?_
         refine tX (i := 21) (N := some 141) rfl rfl HT_ HW_ hHeld (Or.inl ⟨by rfl, by rintro w' ⟨s0, s1, s2, s3, s4, s5, s6, s7, s8⟩; go_simp; with_reducible rfl⟩) ?_
         refine oX (i := 17) (N := some 137) rfl rfl HT_ (fun K hK => ?_)
         refine gS Try.func19 #[.slice (some ad112) t105.length co20, .slice Ao26 x9_9.length co26, .int .i64 a1_2] ?_
         with_reducible refine (field_Gather.calls k2 _ _ t105 _ _ x9_9 a1_2 t172 t173 t174 t175 t176 t177 _ ?side1 ?side2 ?side3 ?side4 A58.out).mono ?_
         (case side1 => exact rC HO_8)
         (case side2 => exact rN HO_8)
         (case side3 => exact rC HO_9)
         (case side4 => exact rN HO_9)
         rintro e w75 ⟨rfl, hb⟩
         refine ⟨_, rfl, ?_⟩
         replace HO_8 := rB HO_8 hb; replace HO_9 := rB HO_9 hb; replace BK101 := bB BK101 hb; replace BK102 := bB BK102 hb; replace BK103 := bB BK103 hb; replace BK159 := bB BK159 hb; replace HB := sB HB hb; (try clear hb); (try clear hb2); (try clear hk); (try clear hi)
         refine hK.out _ _ ⟨cE BK102 0, cE BK102 1, cE BK102 2, cE BK159 0, cE BK159 1, cE BK159 2, cE BK159 3, cE BK159 4, cE BK159 5⟩ (fun hHeld => ?_)
         clear hK K
         refine nX (some 137) ?_
         refine oX (i := 22) (N := some 142) rfl rfl HT_ (fun K hK => ?_)
         refine gS Try.func20 #[.slice (some ad112) t105.length co20, .slice Ao26 x9_9.length co26, .int .i64 a1_2] ?_
         with_reducible refine (paroleref32_Gather.calls k2 _ _ t105 _ _ x9_9 a1_2 t178 t179 t180 t181 t182 t183 _ ?side1 ?side2 ?side3 ?side4 A59.out).mono ?_
         (case side1 => exact rC HO_8)
         (case side2 => exact rN HO_8)
         (case side3 => exact rC HO_9)
         (case side4 => exact rN HO_9)
         rintro e w76 ⟨rfl, hb⟩
         refine ⟨_, rfl, ?_⟩
         replace HO_8 := rB HO_8 hb; replace HO_9 := rB HO_9 hb; replace BK101 := bB BK101 hb; replace BK102 := bB BK102 hb; replace BK103 := bB BK103 hb; replace BK159 := bB BK159 hb; replace HB := sB HB hb; (try clear hb); (try clear hb2); (try clear hk); (try clear hi)
         refine hK.out _ _ ⟨cE BK102 0, cE BK102 1, cE BK102 2, cE BK159 0, cE BK159 1, cE BK159 2, cE BK159 3, cE BK159 4, cE BK159 5⟩ (fun hHeld => ?_)
         clear hK K
         refine nX (some 142) ?_
         refine pX (i := 23) (N := some 143) rfl rfl HT_ ?_
         refine pX (i := 24) (N := some 144) rfl rfl HT_ ?_
         refine pX (i := 25) (N := some 145) rfl rfl HT_ ?_
         refine tX (i := 26) (N := some 146) rfl rfl HT_ HW_ hHeld (Or.inl ⟨by rfl, by rintro w' ⟨s0, s1, s2, s3, s4, s5, s6, s7, s8⟩; go_simp; with_reducible rfl⟩) ?_
         refine tX (i := 28) (N := some 148) rfl rfl HT_ HW_ hHeld (Or.inl ⟨by rfl, by rintro w' ⟨s0, s1, s2, s3, s4, s5, s6, s7, s8⟩; go_simp; with_reducible rfl⟩) ?_
         refine oX (i := 27) (N := some 147) rfl rfl HT_ (fun K hK => ?_)
         refine gS Try.func21 #[.agg #[.int .i64 0, .int .i64 0, .int .i64 ji52, .int .i64 ji53, .int .i64 (Go.bits .and .i64 a1_2 1), .int .i64 0]] ?_ (hargs := by (try simp only [List.map_toArray, List.map_cons, List.map_nil]); first | done | (simp only [hji52, hji53]; rfl) | rfl)
         with_reducible refine (parolelaw32_bound.calls k2 0 0 ji52 ji53 (Go.bits .and .i64 a1_2 1) 0 t184 t185 t186 _ A61.out).mono ?_
         rintro e w77 ⟨rfl, hb⟩
         refine ⟨_, rfl, ?_⟩
         replace HO_8 := rB HO_8 hb; replace HO_9 := rB HO_9 hb; replace BK101 := bB BK101 hb; replace BK102 := bB BK102 hb; replace BK103 := bB BK103 hb; replace BK159 := bB BK159 hb; replace HB := sB HB hb; (try clear hb); (try clear hb2); (try clear hk); (try clear hi)
         refine hK.out _ _ ⟨cE BK102 0, cE BK102 1, cE BK102 2, cE BK159 0, cE BK159 1, cE BK159 2, cE BK159 3, cE BK159 4, cE BK159 5⟩ (fun hHeld => ?_)
         clear hK K
         refine nX (some 147) ?_
         refine oX (i := 29) (N := some 149) rfl rfl HT_ (fun K hK => ?_)
         refine gS Try.func22 #[.agg #[.int .i64 0, .int .i64 0, .int .i64 ji52, .int .i64 ji53, .int .i64 (Go.bits .and .i64 a1_2 1), .int .i64 0]] ?_ (hargs := by (try simp only [List.map_toArray, List.map_cons, List.map_nil]); first | done | (simp only [hji52, hji53]; rfl) | rfl)
         with_reducible refine (paroleref32_BoundIn.calls k2 0 0 ji52 ji53 (Go.bits .and .i64 a1_2 1) 0 t187 t188 t189 _ A62.out).mono ?_
         rintro e w78 ⟨rfl, hb⟩
         refine ⟨_, rfl, ?_⟩
         replace HO_8 := rB HO_8 hb; replace HO_9 := rB HO_9 hb; replace BK101 := bB BK101 hb; replace BK102 := bB BK102 hb; replace BK103 := bB BK103 hb; replace BK159 := bB BK159 hb; replace HB := sB HB hb; (try clear hb); (try clear hb2); (try clear hk); (try clear hi)
         refine hK.out _ _ ⟨cE BK102 0, cE BK102 1, cE BK102 2, cE BK159 0, cE BK159 1, cE BK159 2, cE BK159 3, cE BK159 4, cE BK159 5⟩ (fun hHeld => ?_)
         clear hK K
         refine nX (some 149) ?_
         refine pX (i := 30) (N := some 150) rfl rfl HT_ ?_
         refine pX (i := 31) (N := some 151) rfl rfl HT_ ?_
         refine pX (i := 32) (N := some 6) rfl rfl HT_ ?_
         refine done_ (done_of HT_.out (by kernel_rfl)) ?_
         try go_wp2
         go_ret
         exact ⟨by first | rfl | (simp [errW_none, errW_some] <;> rfl) | (simp only [← hji52, ← hji53]; first | rfl | (simp [errW_none, errW_some] <;> rfl)) | (simp [*, errW_none, errW_some] <;> rfl), sD HB⟩
        ·rw [if_neg c60] at H
         have c60b0 : (t172 == t178 && (t173 == t179 && (t174 == t180 && (t175 == t181 && (t176 == t182 && (t177 == t183)))))) = false := by simpa using c60
         (try (have c60b1 : decide (t172 = t178 && (t173 == t179 && (t174 == t180 && (t175 == t181 && (t176 == t182 && (t177 == t183)))))) = false := by simpa using c60))
         (try (have c60b2 : (t172 == t178 && (t173 == t179 && (t174 == t180 && (t175 == t181 && (t176 == t182 && (t177 == t183)))))) = false := by simpa using c60))
         (try (have c60b3 : ¬ (t172 = t178 && (t173 == t179 && (t174 == t180 && (t175 == t181 && (t176 == t182 && (t177 == t183)))))) := by simpa using c60))
         clear c60
         exact absurd ((Option.some.inj H).trans HT.out) (by decide)
       ·rw [if_neg c57] at H
        have c57b0 : (t160 == t166 && (t161 == t167 && (t162 == t168 && (t163 == t169 && (t164 == t170 && (t165 == t171)))))) = false := by simpa using c57
        (try (have c57b1 : decide (t160 = t166 && (t161 == t167 && (t162 == t168 && (t163 == t169 && (t164 == t170 && (t165 == t171)))))) = false := by simpa using c57))
        (try (have c57b2 : (t160 == t166 && (t161 == t167 && (t162 == t168 && (t163 == t169 && (t164 == t170 && (t165 == t171)))))) = false := by simpa using c57))
        (try (have c57b3 : ¬ (t160 = t166 && (t161 == t167 && (t162 == t168 && (t163 == t169 && (t164 == t170 && (t165 == t171)))))) := by simpa using c57))
        clear c57
        exact absurd ((Option.some.inj H).trans HT.out) (by decide)
      ·exact absurd rfl c54
/-- THE ONE PURE STATEMENT of parolelaw32_FieldMatchesReference. -/
def parolelaw32_FieldMatchesReference.Pure : Prop := ∀ (a0_0 : Int) (l0_1 : List (S58)) (a0_2 : Int) (a1_0 : Int) (a1_1 : Int) (a1_2 : Int) (a2_0 : Int) (a2_1 : Int) (a2_2 : Int) (a2_3 : Int) (a2_4 : Int) (a2_5 : Int) (a2_6 : Int), ((Lit.int .u8 a0_0).wf = true ∧ (l0_1.length ≤ maxLen ∧ ∀ x190 ∈ l0_1, (((Lit.int .u8 x190.f0.f0).wf = true ∧ (Lit.int .u8 x190.f0.f1).wf = true ∧ (Lit.int .u8 x190.f0.f2).wf = true ∧ (Lit.int .u8 x190.f0.f3).wf = true ∧ (Lit.int .u8 x190.f0.f4).wf = true ∧ (Lit.int .u8 x190.f0.f5).wf = true))) ∧ (Lit.int .u8 a0_2).wf = true) → ((Lit.int .i64 a1_0).wf = true ∧ (Lit.int .i64 a1_1).wf = true ∧ (Lit.int .i64 a1_2).wf = true) → ((Lit.int .i64 a2_0).wf = true ∧ (Lit.int .i64 a2_1).wf = true ∧ (Lit.int .i64 a2_2).wf = true ∧ (Lit.int .i64 a2_3).wf = true ∧ (Lit.int .i64 a2_4).wf = true ∧ (Lit.int .i64 a2_5).wf = true ∧ (Lit.int .u64 a2_6).wf = true) → ∃ k, parolelaw32_FieldMatchesReference.f k a0_0 l0_1 a0_2 a1_0 a1_1 a1_2 a2_0 a2_1 a2_2 a2_3 a2_4 a2_5 a2_6 = some true
end Go.Proofs.Ytfdoncgljohndaa.P

/- A part of the claim FieldMatchesReference: lemmas, printed functions with their contracts, plain laws. -/
import Derived.Test.YtfdoncgljohndaacFieldMatchesReference6
set_option linter.unusedVariables false
set_option linter.unusedSimpArgs false
namespace Go.Proofs.Ytfdoncgljohndaa.P
open Go.Proofs.YtfdoncgljohndaaH Go.RowKit Go.Proofs.YtfdoncgljohndaaW.PrintWords Go.Proofs.YtfdoncgljohndaaW.PrintLast Go.Proofs.YtfdoncgljohndaaW.PrintMore
attribute [local go_sem] max2_int min2_int max_two min_two max_three min_three max_four min_four   -- for this text's walks alone
attribute [local go_sem] Go.Proofs.YtfdoncgljohndaaH.cell_set_map
mutual
def paroleref32_machine.l0 : Nat → List Int → List (S28) → Int → Int → Int → Int → Int → Int → Int → Int → Int → Int → Int → Option (Int × Int × Int × Int × Int × Int)
 | 0, _, _, _, _, _, _, _, _, _, _, _, _, _ => none
 | k + 1, x0, x1, x2, x3, x10, x11, x12, x103000, x103001, x103002, x103003, x103004, x103005 => if x12 < (x1.length : Int) then (if 0 ≤ x12 then (if ((rd_T28 x1 x12).f0) = x3 then (if ((rd_T28 x1 x12).f2) = x2 then ((paroleref32_Right.f k x0 ((rd_T28 x1 x12).f0) ((rd_T28 x1 x12).f1) ((rd_T28 x1 x12).f2) ((rd_T28 x1 x12).f3) ((rd_T28 x1 x12).f4) ((rd_T28 x1 x12).f5) ((rd_T28 x1 x12).f6)).bind fun t105 => (paroleref32_machine.j1 k x0 x1 x2 x3 x10 x11 x12 (t105 != 0) x103000 x103001 x103002 x103003 x103004 x103005 ((rd_T28 x1 x12).f0) ((rd_T28 x1 x12).f1) ((rd_T28 x1 x12).f2) ((rd_T28 x1 x12).f3) ((rd_T28 x1 x12).f4) ((rd_T28 x1 x12).f5) ((rd_T28 x1 x12).f6))) else (paroleref32_machine.j1 k x0 x1 x2 x3 x10 x11 x12 true x103000 x103001 x103002 x103003 x103004 x103005 ((rd_T28 x1 x12).f0) ((rd_T28 x1 x12).f1) ((rd_T28 x1 x12).f2) ((rd_T28 x1 x12).f3) ((rd_T28 x1 x12).f4) ((rd_T28 x1 x12).f5) ((rd_T28 x1 x12).f6))) else (paroleref32_machine.j1 k x0 x1 x2 x3 x10 x11 x12 true x103000 x103001 x103002 x103003 x103004 x103005 ((rd_T28 x1 x12).f0) ((rd_T28 x1 x12).f1) ((rd_T28 x1 x12).f2) ((rd_T28 x1 x12).f3) ((rd_T28 x1 x12).f4) ((rd_T28 x1 x12).f5) ((rd_T28 x1 x12).f6))) else (none)) else (some (x103000, x103001, x103002, x103003, x103004, wrap64 (x10 - x11)))
def paroleref32_machine.j1 : Nat → List Int → List (S28) → Int → Int → Int → Int → Int → Bool → Int → Int → Int → Int → Int → Int → Int → Int → Int → Int → Int → Int → Int → Option (Int × Int × Int × Int × Int × Int)
 | 0, _, _, _, _, _, _, _, _, _, _, _, _, _, _, _, _, _, _, _, _, _ => none
 | k + 1, x0, x1, x2, x3, x10, x11, x12, x42, x103000, x103001, x103002, x103003, x103004, x103005, x105000, x105001, x105002, x105003, x105004, x105005, x105006 => if x42 = true then (paroleref32_machine.l0 k x0 x1 x2 x3 x10 x11 (wrap64 (x12 + 1)) x103000 x103001 x103002 x103003 x103004 x103005) else (paroleref32_machine.l1 k x0 x1 x2 x3 x10 x11 x12 false 0 x103000 x103001 x103002 x103003 x103004 x103005 x105000 x105001 x105002 x105003 x105004 x105005 x105006)
def paroleref32_machine.l1 : Nat → List Int → List (S28) → Int → Int → Int → Int → Int → Bool → Int → Int → Int → Int → Int → Int → Int → Int → Int → Int → Int → Int → Int → Int → Option (Int × Int × Int × Int × Int × Int)
 | 0, _, _, _, _, _, _, _, _, _, _, _, _, _, _, _, _, _, _, _, _, _, _ => none
 | k + 1, x0, x1, x2, x3, x10, x11, x12, x14, x15, x103000, x103001, x103002, x103003, x103004, x103005, x105000, x105001, x105002, x105003, x105004, x105005, x105006 => if x15 < x12 then (if x14 = true then (paroleref32_machine.l1 k x0 x1 x2 x3 x10 x11 x12 true (wrap64 (x15 + 1)) x103000 x103001 x103002 x103003 x103004 x103005 x105000 x105001 x105002 x105003 x105004 x105005 x105006) else (if 0 ≤ x15 then (if x15 < (x1.length : Int) then (if ((rd_T28 x1 x15).f0) = x3 then (if ((rd_T28 x1 x15).f2) = x2 then (if ((rd_T28 x1 x15).f1) = x105001 then ((paroleref32_Right.f k x0 ((rd_T28 x1 x15).f0) ((rd_T28 x1 x15).f1) ((rd_T28 x1 x15).f2) ((rd_T28 x1 x15).f3) ((rd_T28 x1 x15).f4) ((rd_T28 x1 x15).f5) ((rd_T28 x1 x15).f6)).bind fun t110 => (paroleref32_machine.l1 k x0 x1 x2 x3 x10 x11 x12 (t110 == 0) (wrap64 (x15 + 1)) x103000 x103001 x103002 x103003 x103004 x103005 x105000 x105001 x105002 x105003 x105004 x105005 x105006)) else (paroleref32_machine.l1 k x0 x1 x2 x3 x10 x11 x12 false (wrap64 (x15 + 1)) x103000 x103001 x103002 x103003 x103004 x103005 x105000 x105001 x105002 x105003 x105004 x105005 x105006)) else (paroleref32_machine.l1 k x0 x1 x2 x3 x10 x11 x12 false (wrap64 (x15 + 1)) x103000 x103001 x103002 x103003 x103004 x103005 x105000 x105001 x105002 x105003 x105004 x105005 x105006)) else (paroleref32_machine.l1 k x0 x1 x2 x3 x10 x11 x12 false (wrap64 (x15 + 1)) x103000 x103001 x103002 x103003 x103004 x103005 x105000 x105001 x105002 x105003 x105004 x105005 x105006)) else (none)) else (none))) else (if x14 = true then (paroleref32_machine.l0 k x0 x1 x2 x3 (mx x10 x105001) x11 (wrap64 (x12 + 1)) x103000 1 (mx x103002 x105003) (mx x103003 x105004) (mx x103004 x105005) x103005) else (paroleref32_machine.l0 k x0 x1 x2 x3 (mx x10 x105001) (wrap64 (x11 + 1)) (wrap64 (x12 + 1)) x103000 1 (mx x103002 x105003) (mx x103003 x105004) (mx x103004 x105005) x103005))
end
def paroleref32_machine.f (k : Nat) (l0 : List Int) (l1 : List (S28)) (a2 : Int) (a3 : Int) : Option (Int × Int × Int × Int × Int × Int) := paroleref32_machine.l0 k l0 l1 a2 a3 0 0 0 0 0 0 0 0 0
def paroleref32_machine.T13 : Bool × List (List Nat × List Nat) := (true, [([], []), ([0], [0]), ([1], [1]), ([1], [1]), ([2, 3, 1], [1, 2, 3]), ([4, 1], [1, 4]), ([5, 1], [1, 5]), ([1], [1]), ([6, 7, 1], [1, 6, 7]), ([8, 1, 1], [1, 8]), ([9], [9]), ([9], [9]), ([10, 11, 9], [9, 10, 11]), ([12, 9], [9, 12]), ([13, 9], [9, 13]), ([9], [9]), ([14, 15, 9], [9, 14, 15]), ([9, 16, 1], [1, 9, 16]), ([17, 9, 1], [1, 17]), ([18], [18]), ([18], [18]), ([19, 20, 18], [18, 19, 20]), ([21, 18], [18, 21]), ([22, 18], [18, 22]), ([18], [18]), ([24, 18], [18, 24]), ([23, 25, 18], [18, 23, 25]), ([18, 26, 1], [1, 18, 26]), ([27, 18, 1], [1, 27]), ([28], [28]), ([28], [28]), ([28], [28]), ([30, 31, 28], [28, 30, 31]), ([32, 28], [28, 32]), ([29, 33, 28, 28], [28, 29, 33]), ([34, 28], [28, 34]), ([28, 35, 1], [1, 28, 35]), ([1, 36], [1, 36]), ([37, 34, 0, 1, 2, 3, 4, 5, 6, 7, 8, 9, 10, 11, 12, 13, 14, 15, 16, 17, 18, 19, 20, 21, 22, 23, 24, 25, 26, 27, 28, 29, 30, 31, 32, 33, 34, 35, 36, 37], [0, 37])])
def paroleref32_machine.B13 : List Nat := [0, 1, 3, 3, 15, 31, 63, 3, 255, 511, 1023, 1023, 4095, 8191, 16383, 1023, 65535, 131071, 262143, 524287, 524287, 2097151, 4194303, 8388607, 524287, 17301503, 67108863, 134217727, 268435455, 536870911, 536870911, 536870911, 3758096383, 8053063679, 17179869183, 34359738367, 68719476735, 137438953471, 274877906943]
theorem paroleref32_machine.tab13 : rtab .any (opsOf Try.f37 13) = paroleref32_machine.T13 := by kernel_rfl
theorem paroleref32_machine.bits13 : waitsOk paroleref32_machine.T13.2 paroleref32_machine.B13 = true := by kernel_rfl
set_option maxHeartbeats 40000000 in
set_option maxRecDepth 100000 in
theorem paroleref32_machine.calls (k : Nat) (A0 : Option Addr) (c0 : Nat) (l0 : List Int) (A1 : Option Addr) (c1 : Nat) (l1 : List (S28)) (a2 : Int) (a3 : Int) (r1 : Int) (r2 : Int) (r3 : Int) (r4 : Int) (r5 : Int) (r6 : Int) (w : World) (hr0 : Kd.C (Kd.int .u64) w A0 l0.length l0) (hc0 : l0.length ≤ c0) (hr1 : Kd.C k28 w A1 l1.length l1) (hc1 : l1.length ≤ c1) (h : paroleref32_machine.f k l0 l1 a2 a3 = some (r1, r2, r3, r4, r5, r6)) :
  Calls Try.prog 37 #[.slice A0 l0.length c0, .slice A1 l1.length c1, .int .i64 a2, .int .i64 a3] w fun e w' => e = .returned (.agg #[.int .i64 r1, .int .i64 r2, .int .i64 r3, .int .i64 r4, .int .i64 r5, .int .i64 r6]) ∧ Below w.heap.size w w' := by
 have hu40 := Try.underlying40; have hu28 := Try.underlying28; have HR0 := aM hr0; have HC0 := aM hc0; clear hr0 hc0; have HR1 := aM hr1; have HC1 := aM hc1; clear hr1 hc1; have HB := aM (Below.refl w.heap.size w)
 have H : (paroleref32_machine.l0 k l0 l1 a2 a3 0 0 0 0 0 0 0 0 0) = some (r1, r2, r3, r4, r5, r6) := h
 clear h; have H' := aM H; clear H
 go_enter Try.func37, Try.ntmps37
 go_wp2_with (first | ((with_reducible refine gate_dst (N := 8) rfl ?_); refine bE (N := 8) (cs := #[.int .i64 0, .int .i64 0, .int .i64 0, .int .i64 0, .int .i64 0, .int .i64 0]) (t := 40) ?_; intro gb101 hg w5 hbox hb; have BK101 := aM (hbox); have GW101 := gE hg HB; have GE101 := gE hg HB; replace HB := sB HB hb; clear hb hbox hg) | ((with_reducible refine gate_dst (N := 9) rfl ?_); refine bE (N := 9) (cs := #[.int .i64 0, .int .i64 0, .int .i64 0, .int .i64 0, .int .i64 0, .int .i64 0]) (t := 40) ?_; intro gb102 hg w6 hbox hb; have BK102 := aM (hbox); have GW102 := gE hg HB; have GE102 := gE hg HB; have NB101_102 := nL hg BK101; replace BK101 := bB BK101 hb; replace HB := sB HB hb; clear hb hbox hg; have hnb7 := NB101_102.out.symm; have hnc7 := NB101_102.out; obtain ⟨hcz8_0, hcz8_1, hcz8_2, hcz8_3, hcz8_4, hcz8_5, hfz8_0, hfz8_1, hfz8_2, hfz8_3, hfz8_4, hfz8_5⟩ := cZ6 BK102))
 go_loopg [10, 11, 12] k (fun kq v10 v11 v12 w' => ∃ (x10_1 : Int) (x11_1 : Int) (x12_1 : Int) (x103001_1 : Int) (x103002_1 : Int) (x103003_1 : Int) (x103004_1 : Int), v10 = .int .i64 x10_1 ∧ v11 = .int .i64 x11_1 ∧ v12 = .int .i64 x12_1 ∧ Aside0 (paroleref32_machine.l0 kq l0 l1 a2 a3 x10_1 x11_1 x12_1 0 x103001_1 x103002_1 x103003_1 x103004_1 0 = some (r1, r2, r3, r4, r5, r6)) ∧ Aside0 (kq ≤ k) ∧ Aside0 (w'.heap[gb101]? = some (.cells #[.int .i64 0, .int .i64 0, .int .i64 0, .int .i64 0, .int .i64 0, .int .i64 0] 40 (0, 0))) ∧ Aside0 (w'.heap[gb102]? = some (.cells #[.int .i64 0, .int .i64 x103001_1, .int .i64 x103002_1, .int .i64 x103003_1, .int .i64 x103004_1, .int .i64 0] 40 (0, 0))) ∧ Aside0 (Below w.heap.size w w'))
 case atStart => exact ⟨(0), (0), (0), (0), (0), (0), (0), (by first | rfl | (simp; done) | (simp [*]; done)), (by first | rfl | (simp; done) | (simp [*]; done)), (by first | rfl | (simp; done) | (simp [*]; done)), H', ⟨Nat.le_refl _⟩, ⟨bF BK101⟩, ⟨by refine bM ?_; refine blk_put (cs := #[.int .i64 0, .int .i64 0, .int .i64 0, .int .i64 0, .int .i64 0, .int .i64 0]) ?_ 5 _ rfl; refine bM ?_; refine blk_put (cs := #[.int .i64 0, .int .i64 0, .int .i64 0, .int .i64 0, .int .i64 0, .int .i64 0]) ?_ 4 _ rfl; refine bM ?_; refine blk_put (cs := #[.int .i64 0, .int .i64 0, .int .i64 0, .int .i64 0, .int .i64 0, .int .i64 0]) ?_ 3 _ rfl; refine bM ?_; refine blk_put (cs := #[.int .i64 0, .int .i64 0, .int .i64 0, .int .i64 0, .int .i64 0, .int .i64 0]) ?_ 2 _ rfl; refine bM ?_; refine blk_put (cs := #[.int .i64 0, .int .i64 0, .int .i64 0, .int .i64 0, .int .i64 0, .int .i64 0]) ?_ 1 _ rfl; refine bM ?_; refine blk_put (cs := #[.int .i64 0, .int .i64 0, .int .i64 0, .int .i64 0, .int .i64 0, .int .i64 0]) ?_ 0 _ rfl; exact bD BK102⟩, ⟨sD HB⟩⟩
 case round =>
  clear H'
  try clear c1
  try clear p2
  try clear c3
  try clear c7
  try clear hcz8_0
  try clear hcz8_1
  try clear hcz8_2
  try clear hcz8_3
  try clear hcz8_4
  try clear hcz8_5
  try clear hfz8_0
  try clear hfz8_1
  try clear hfz8_2
  try clear hfz8_3
  try clear hfz8_4
  try clear hfz8_5
  obtain ⟨x10_1, x11_1, x12_1, x103001_1, x103002_1, x103003_1, x103004_1, rfl, rfl, rfl, HA, HK1, BK101, BK102, HB⟩ := hrel
  cases gk with
  | zero => exact absurd HA.out (by simp [paroleref32_machine.l0])
  | succ k1 =>
   have H := HA.out; clear HA
   simp only [paroleref32_machine.l0] at H
   by_cases c9 : x12_1 < (l1.length : Int)
   ·rw [if_pos c9] at H
    have c9b0 : decide (x12_1 < (l1.length : Int)) = true := decide_eq_true c9
    clear c9
    by_cases c10 : 0 ≤ x12_1
    ·rw [if_pos c10] at H
     have c10b0 : decide (0 ≤ x12_1) = true := decide_eq_true c10
     clear c10; have HC11 := aM H; clear H
     have p103 : 0 ≤ (x12_1 : Int) := of_decide_eq_true (by first | (with_reducible assumption) | assumption)
     have q103 : x12_1 < (l1.length : Int) := of_decide_eq_true (by first | (with_reducible assumption) | assumption)
     obtain ⟨ad103, e103, hx103_0, hx103_1, hx103_2, hx103_3, hx103_4, hx103_5, hx103_6⟩ := at_T28 HR1.out x12_1 p103 q103
     cases e103
     replace hx103_0 := (HB.out.cell (World.block_lt_of_cell? w _ hx103_0)).trans hx103_0; replace hx103_1 := (HB.out.cell (World.block_lt_of_cell? w _ hx103_1)).trans hx103_1; replace hx103_2 := (HB.out.cell (World.block_lt_of_cell? w _ hx103_2)).trans hx103_2; replace hx103_3 := (HB.out.cell (World.block_lt_of_cell? w _ hx103_3)).trans hx103_3; replace hx103_4 := (HB.out.cell (World.block_lt_of_cell? w _ hx103_4)).trans hx103_4; replace hx103_5 := (HB.out.cell (World.block_lt_of_cell? w _ hx103_5)).trans hx103_5; replace hx103_6 := (HB.out.cell (World.block_lt_of_cell? w _ hx103_6)).trans hx103_6; replace p103 := eq_true p103; replace q103 := eq_true q103
     go_upto_region 8 with (first | ((with_reducible refine gate_dst (N := 13) rfl ?_); refine bE (N := 13) (cs := #[.int .i64 0, .int .i64 0, .int .i64 0, .int .i64 0, .int .i64 0, .int .i64 0, .int .u64 0]) (t := 28) ?_; intro gb104 hg w12 hbox hb; have BK104 := aM (hbox); have GW104 := gE hg HB; have GE104 := gE hg HB; have NB101_104 := nL hg BK101; have NB102_104 := nL hg BK102; replace BK101 := bB BK101 hb; replace BK102 := bB BK102 hb; replace HB := sB HB hb; clear hb hbox hg; have hnb13 := NB101_104.out.symm; have hnc13 := NB101_104.out; have hnb14 := NB102_104.out.symm; have hnc14 := NB102_104.out; obtain ⟨hcz15_0, hcz15_1, hcz15_2, hcz15_3, hcz15_4, hcz15_5, hcz15_6, hfz15_0, hfz15_1, hfz15_2, hfz15_3, hfz15_4, hfz15_5, hfz15_6⟩ := cZ7 BK104))
     (try simp only [Act.put, List.setIfInBounds_toArray, List.set_cons_zero, List.set_cons_succ])
     go_cut [42] (fun v42 wc => ∃ (kq : Nat) (x42_10 : Bool), v42 = .bool x42_10 ∧ Aside0 (paroleref32_machine.j1 kq l0 l1 a2 a3 x10_1 x11_1 x12_1 x42_10 0 x103001_1 x103002_1 x103003_1 x103004_1 0 ((rd_T28 l1 x12_1).f0) ((rd_T28 l1 x12_1).f1) ((rd_T28 l1 x12_1).f2) ((rd_T28 l1 x12_1).f3) ((rd_T28 l1 x12_1).f4) ((rd_T28 l1 x12_1).f5) ((rd_T28 l1 x12_1).f6) = some (r1, r2, r3, r4, r5, r6)) ∧ Aside0 (kq ≤ k1) ∧ Aside0 (wc.heap[gb101]? = some (.cells #[.int .i64 0, .int .i64 0, .int .i64 0, .int .i64 0, .int .i64 0, .int .i64 0] 40 (0, 0))) ∧ Aside0 (wc.heap[gb102]? = some (.cells #[.int .i64 0, .int .i64 x103001_1, .int .i64 x103002_1, .int .i64 x103003_1, .int .i64 x103004_1, .int .i64 0] 40 (0, 0))) ∧ Aside0 (wc.heap[gb104]? = some (.cells #[.int .i64 ((rd_T28 l1 x12_1).f0), .int .i64 ((rd_T28 l1 x12_1).f1), .int .i64 ((rd_T28 l1 x12_1).f2), .int .i64 ((rd_T28 l1 x12_1).f3), .int .i64 ((rd_T28 l1 x12_1).f4), .int .i64 ((rd_T28 l1 x12_1).f5), .int .u64 ((rd_T28 l1 x12_1).f6)] 28 (0, 0))) ∧ Aside0 (Below w.heap.size w wc))
     case first =>
      have H := HC11.out; clear HC11
      by_cases c16 : ((rd_T28 l1 x12_1).f0) = a3
      ·rw [if_pos c16] at H
       have c16b0 : (((rd_T28 l1 x12_1).f0) == a3) = true := beq_iff_eq.mpr c16
       have c16b1 : (((rd_T28 l1 x12_1).f0) != a3) = false := bne_eq_false_iff_eq.mpr c16
       clear c16
       (first | rw [c16b0] | (simp only [i64_w, i32_w]; rw [c16b0]) | skip)
       by_cases c17 : ((rd_T28 l1 x12_1).f2) = a2
       ·rw [if_pos c17] at H
        have c17b0 : (((rd_T28 l1 x12_1).f2) == a2) = true := beq_iff_eq.mpr c17
        have c17b1 : (((rd_T28 l1 x12_1).f2) != a2) = false := bne_eq_false_iff_eq.mpr c17
        clear c17; replace H := Option.bind_eq_some_iff.mp H
        obtain ⟨t105, A180, H⟩ := H
        replace H : (paroleref32_machine.j1 k1 l0 l1 a2 a3 x10_1 x11_1 x12_1 (t105 != 0) 0 x103001_1 x103002_1 x103003_1 x103004_1 0 ((rd_T28 l1 x12_1).f0) ((rd_T28 l1 x12_1).f1) ((rd_T28 l1 x12_1).f2) ((rd_T28 l1 x12_1).f3) ((rd_T28 l1 x12_1).f4) ((rd_T28 l1 x12_1).f5) ((rd_T28 l1 x12_1).f6)) = some (r1, r2, r3, r4, r5, r6) := H
        have A18 := aM A180; clear A180; have H' := aM H; clear H; have hnb19 := NB101_104.out.symm; have hnc19 := NB101_104.out; have hnb20 := NB102_104.out.symm; have hnc20 := NB102_104.out; obtain ⟨hcz21_0, hcz21_1, hcz21_2, hcz21_3, hcz21_4, hcz21_5, hcz21_6, hfz21_0, hfz21_1, hfz21_2, hfz21_3, hfz21_4, hfz21_5, hfz21_6⟩ := cZ7 BK104
        go_wp2_with (first | (go_at_call 18; (with_reducible refine (paroleref32_Right.calls k1 _ _ l0 ((rd_T28 l1 x12_1).f0) ((rd_T28 l1 x12_1).f1) ((rd_T28 l1 x12_1).f2) ((rd_T28 l1 x12_1).f3) ((rd_T28 l1 x12_1).f4) ((rd_T28 l1 x12_1).f5) ((rd_T28 l1 x12_1).f6) t105 _ ?side1 ?side2 A18.out).mono ?_); (case side1 => exact Kd.C_below HR0.out (sD HB)); (case side2 => exact HC0.out); rintro e w22 ⟨rfl, hb⟩; replace BK101 := aM (blk_below (g := gb101) (o := .cells #[.int .i64 0, .int .i64 0, .int .i64 0, .int .i64 0, .int .i64 0, .int .i64 0] 40 (0, 0)) (bF BK101) hb); replace BK102 := aM (blk_below (g := gb102) (o := .cells #[.int .i64 0, .int .i64 x103001_1, .int .i64 x103002_1, .int .i64 x103003_1, .int .i64 x103004_1, .int .i64 0] 40 (0, 0)) (bF BK102) hb); replace BK104 := aM (blk_below (g := gb104) (o := .cells #[.int .i64 ((rd_T28 l1 x12_1).f0), .int .i64 ((rd_T28 l1 x12_1).f1), .int .i64 ((rd_T28 l1 x12_1).f2), .int .i64 ((rd_T28 l1 x12_1).f3), .int .i64 ((rd_T28 l1 x12_1).f4), .int .i64 ((rd_T28 l1 x12_1).f5), .int .u64 ((rd_T28 l1 x12_1).f6)] 28 (0, 0)) (by refine bM ?_; refine blk_put (cs := #[.int .i64 ((rd_T28 l1 x12_1).f0), .int .i64 ((rd_T28 l1 x12_1).f1), .int .i64 ((rd_T28 l1 x12_1).f2), .int .i64 ((rd_T28 l1 x12_1).f3), .int .i64 ((rd_T28 l1 x12_1).f4), .int .i64 ((rd_T28 l1 x12_1).f5), .int .u64 0]) ?_ 6 _ rfl; refine bM ?_; refine blk_put (cs := #[.int .i64 ((rd_T28 l1 x12_1).f0), .int .i64 ((rd_T28 l1 x12_1).f1), .int .i64 ((rd_T28 l1 x12_1).f2), .int .i64 ((rd_T28 l1 x12_1).f3), .int .i64 ((rd_T28 l1 x12_1).f4), .int .i64 0, .int .u64 0]) ?_ 5 _ rfl; refine bM ?_; refine blk_put (cs := #[.int .i64 ((rd_T28 l1 x12_1).f0), .int .i64 ((rd_T28 l1 x12_1).f1), .int .i64 ((rd_T28 l1 x12_1).f2), .int .i64 ((rd_T28 l1 x12_1).f3), .int .i64 0, .int .i64 0, .int .u64 0]) ?_ 4 _ rfl; refine bM ?_; refine blk_put (cs := #[.int .i64 ((rd_T28 l1 x12_1).f0), .int .i64 ((rd_T28 l1 x12_1).f1), .int .i64 ((rd_T28 l1 x12_1).f2), .int .i64 0, .int .i64 0, .int .i64 0, .int .u64 0]) ?_ 3 _ rfl; refine bM ?_; refine blk_put (cs := #[.int .i64 ((rd_T28 l1 x12_1).f0), .int .i64 ((rd_T28 l1 x12_1).f1), .int .i64 0, .int .i64 0, .int .i64 0, .int .i64 0, .int .u64 0]) ?_ 2 _ rfl; refine bM ?_; refine blk_put (cs := #[.int .i64 ((rd_T28 l1 x12_1).f0), .int .i64 0, .int .i64 0, .int .i64 0, .int .i64 0, .int .i64 0, .int .u64 0]) ?_ 1 _ rfl; refine bM ?_; refine blk_put (cs := #[.int .i64 0, .int .i64 0, .int .i64 0, .int .i64 0, .int .i64 0, .int .i64 0, .int .u64 0]) ?_ 0 _ rfl; exact bD BK104) hb); replace HB := sB HB hb; (try clear hb)))
        go_meet
        case rel => exact ⟨_, ((t105 != 0)), (by first | rfl | (simp; done) | (simp [*]; done)), H', ⟨by have := HK1.out; first | omega | exact Nat.le_refl _⟩, ⟨by exact bD BK101⟩, ⟨by exact bD BK102⟩, ⟨by exact bD BK104⟩, ⟨sD HB⟩⟩
       ·rw [if_neg c17] at H
        have c17b0 : (((rd_T28 l1 x12_1).f2) == a2) = false := beq_eq_false_iff_ne.mpr c17
        have c17b1 : (((rd_T28 l1 x12_1).f2) != a2) = true := bne_iff_ne.mpr c17
        have H' := aM H; clear H; have hnb23 := NB101_104.out.symm; have hnc23 := NB101_104.out; have hnb24 := NB102_104.out.symm; have hnc24 := NB102_104.out; obtain ⟨hcz25_0, hcz25_1, hcz25_2, hcz25_3, hcz25_4, hcz25_5, hcz25_6, hfz25_0, hfz25_1, hfz25_2, hfz25_3, hfz25_4, hfz25_5, hfz25_6⟩ := cZ7 BK104
        go_wp2
        go_meet
        case rel => exact ⟨_, (true), (by first | rfl | (simp; done) | (simp [*]; done)), H', ⟨by have := HK1.out; first | omega | exact Nat.le_refl _⟩, ⟨bF BK101⟩, ⟨bF BK102⟩, ⟨by refine bM ?_; refine blk_put (cs := #[.int .i64 ((rd_T28 l1 x12_1).f0), .int .i64 ((rd_T28 l1 x12_1).f1), .int .i64 ((rd_T28 l1 x12_1).f2), .int .i64 ((rd_T28 l1 x12_1).f3), .int .i64 ((rd_T28 l1 x12_1).f4), .int .i64 ((rd_T28 l1 x12_1).f5), .int .u64 0]) ?_ 6 _ rfl; refine bM ?_; refine blk_put (cs := #[.int .i64 ((rd_T28 l1 x12_1).f0), .int .i64 ((rd_T28 l1 x12_1).f1), .int .i64 ((rd_T28 l1 x12_1).f2), .int .i64 ((rd_T28 l1 x12_1).f3), .int .i64 ((rd_T28 l1 x12_1).f4), .int .i64 0, .int .u64 0]) ?_ 5 _ rfl; refine bM ?_; refine blk_put (cs := #[.int .i64 ((rd_T28 l1 x12_1).f0), .int .i64 ((rd_T28 l1 x12_1).f1), .int .i64 ((rd_T28 l1 x12_1).f2), .int .i64 ((rd_T28 l1 x12_1).f3), .int .i64 0, .int .i64 0, .int .u64 0]) ?_ 4 _ rfl; refine bM ?_; refine blk_put (cs := #[.int .i64 ((rd_T28 l1 x12_1).f0), .int .i64 ((rd_T28 l1 x12_1).f1), .int .i64 ((rd_T28 l1 x12_1).f2), .int .i64 0, .int .i64 0, .int .i64 0, .int .u64 0]) ?_ 3 _ rfl; refine bM ?_; refine blk_put (cs := #[.int .i64 ((rd_T28 l1 x12_1).f0), .int .i64 ((rd_T28 l1 x12_1).f1), .int .i64 0, .int .i64 0, .int .i64 0, .int .i64 0, .int .u64 0]) ?_ 2 _ rfl; refine bM ?_; refine blk_put (cs := #[.int .i64 ((rd_T28 l1 x12_1).f0), .int .i64 0, .int .i64 0, .int .i64 0, .int .i64 0, .int .i64 0, .int .u64 0]) ?_ 1 _ rfl; refine bM ?_; refine blk_put (cs := #[.int .i64 0, .int .i64 0, .int .i64 0, .int .i64 0, .int .i64 0, .int .i64 0, .int .u64 0]) ?_ 0 _ rfl; exact bD BK104⟩, ⟨sD HB⟩⟩
      ·rw [if_neg c16] at H
       have c16b0 : (((rd_T28 l1 x12_1).f0) == a3) = false := beq_eq_false_iff_ne.mpr c16
       have c16b1 : (((rd_T28 l1 x12_1).f0) != a3) = true := bne_iff_ne.mpr c16
       (first | rw [c16b0] | (simp only [i64_w, i32_w]; rw [c16b0]) | skip)
       have H' := aM H; clear H; have hnb26 := NB101_104.out.symm; have hnc26 := NB101_104.out; have hnb27 := NB102_104.out.symm; have hnc27 := NB102_104.out; obtain ⟨hcz28_0, hcz28_1, hcz28_2, hcz28_3, hcz28_4, hcz28_5, hcz28_6, hfz28_0, hfz28_1, hfz28_2, hfz28_3, hfz28_4, hfz28_5, hfz28_6⟩ := cZ7 BK104
       go_wp2
       go_meet
       case rel => exact ⟨_, (true), (by first | rfl | (simp; done) | (simp [*]; done)), H', ⟨by have := HK1.out; first | omega | exact Nat.le_refl _⟩, ⟨bF BK101⟩, ⟨bF BK102⟩, ⟨by refine bM ?_; refine blk_put (cs := #[.int .i64 ((rd_T28 l1 x12_1).f0), .int .i64 ((rd_T28 l1 x12_1).f1), .int .i64 ((rd_T28 l1 x12_1).f2), .int .i64 ((rd_T28 l1 x12_1).f3), .int .i64 ((rd_T28 l1 x12_1).f4), .int .i64 ((rd_T28 l1 x12_1).f5), .int .u64 0]) ?_ 6 _ rfl; refine bM ?_; refine blk_put (cs := #[.int .i64 ((rd_T28 l1 x12_1).f0), .int .i64 ((rd_T28 l1 x12_1).f1), .int .i64 ((rd_T28 l1 x12_1).f2), .int .i64 ((rd_T28 l1 x12_1).f3), .int .i64 ((rd_T28 l1 x12_1).f4), .int .i64 0, .int .u64 0]) ?_ 5 _ rfl; refine bM ?_; refine blk_put (cs := #[.int .i64 ((rd_T28 l1 x12_1).f0), .int .i64 ((rd_T28 l1 x12_1).f1), .int .i64 ((rd_T28 l1 x12_1).f2), .int .i64 ((rd_T28 l1 x12_1).f3), .int .i64 0, .int .i64 0, .int .u64 0]) ?_ 4 _ rfl; refine bM ?_; refine blk_put (cs := #[.int .i64 ((rd_T28 l1 x12_1).f0), .int .i64 ((rd_T28 l1 x12_1).f1), .int .i64 ((rd_T28 l1 x12_1).f2), .int .i64 0, .int .i64 0, .int .i64 0, .int .u64 0]) ?_ 3 _ rfl; refine bM ?_; refine blk_put (cs := #[.int .i64 ((rd_T28 l1 x12_1).f0), .int .i64 ((rd_T28 l1 x12_1).f1), .int .i64 0, .int .i64 0, .int .i64 0, .int .i64 0, .int .u64 0]) ?_ 2 _ rfl; refine bM ?_; refine blk_put (cs := #[.int .i64 ((rd_T28 l1 x12_1).f0), .int .i64 0, .int .i64 0, .int .i64 0, .int .i64 0, .int .i64 0, .int .u64 0]) ?_ 1 _ rfl; refine bM ?_; refine blk_put (cs := #[.int .i64 0, .int .i64 0, .int .i64 0, .int .i64 0, .int .i64 0, .int .i64 0, .int .u64 0]) ?_ 0 _ rfl; exact bD BK104⟩, ⟨sD HB⟩⟩
     case rest =>
      clear HC11
      try clear c1
      try clear p1
      try clear q1
      try clear hx1
      try clear c2
      try clear p2
      try clear c3
      try clear c7
      try clear c9
      try clear c9b0
      try clear c10
      try clear c10b0
      try clear p10
      try clear q10
      try clear hx10
      try clear c13
      try clear c14
      try clear c16
      try clear c16b0
      try clear c16b1
      try clear c17
      try clear c17b0
      try clear c17b1
      try clear c19
      try clear c20
      try clear c23
      try clear c24
      try clear c26
      try clear c27
      try clear hcz15_0
      try clear hcz15_1
      try clear hcz15_2
      try clear hcz15_3
      try clear hcz15_4
      try clear hcz15_5
      try clear hcz15_6
      try clear hcz21_0
      try clear hcz21_1
      try clear hcz21_2
      try clear hcz21_3
      try clear hcz21_4
      try clear hcz21_5
      try clear hcz21_6
      try clear hcz25_0
      try clear hcz25_1
      try clear hcz25_2
      try clear hcz25_3
      try clear hcz25_4
      try clear hcz25_5
      try clear hcz25_6
      try clear hcz28_0
      try clear hcz28_1
      try clear hcz28_2
      try clear hcz28_3
      try clear hcz28_4
      try clear hcz28_5
      try clear hcz28_6
      try clear hcz8_0
      try clear hcz8_1
      try clear hcz8_2
      try clear hcz8_3
      try clear hcz8_4
      try clear hcz8_5
      try clear hfz15_0
      try clear hfz15_1
      try clear hfz15_2
      try clear hfz15_3
      try clear hfz15_4
      try clear hfz15_5
      try clear hfz15_6
      try clear hfz21_0
      try clear hfz21_1
      try clear hfz21_2
      try clear hfz21_3
      try clear hfz21_4
      try clear hfz21_5
      try clear hfz21_6
      try clear hfz25_0
      try clear hfz25_1
      try clear hfz25_2
      try clear hfz25_3
      try clear hfz25_4
      try clear hfz25_5
      try clear hfz25_6
      try clear hfz28_0
      try clear hfz28_1
      try clear hfz28_2
      try clear hfz28_3
      try clear hfz28_4
      try clear hfz28_5
      try clear hfz28_6
      try clear hfz8_0
      try clear hfz8_1
      try clear hfz8_2
      try clear hfz8_3
      try clear hfz8_4
      try clear hfz8_5
      try clear hx103_0
      try clear hx103_1
      try clear hx103_2
      try clear hx103_3
      try clear hx103_4
      try clear hx103_5
      try clear hx103_6
      try clear p103
      try clear p2
      try clear q103
      obtain ⟨kq, x42_10, rfl, HA, HJ10, BK101, BK102, BK104, HB⟩ := hcut
      cases kq with
      | zero => exact absurd HA.out (by simp [paroleref32_machine.j1])
      | succ kj10 =>
       have H := HA.out; clear HA
       simp only [paroleref32_machine.j1] at H
       by_cases c29 : x42_10 = true
       ·subst c29
        have H1 : (paroleref32_machine.l0 kj10 l0 l1 a2 a3 x10_1 x11_1 (wrap64 (x12_1 + 1)) 0 x103001_1 x103002_1 x103003_1 x103004_1 0) = some (r1, r2, r3, r4, r5, r6) := by rw [if_pos rfl] at H; exact H
        clear H; have H := H1; clear H1; have H' := aM H; clear H
        go_wp2
        go_roundg kj10
        case measure => have := HK1.out; have := HJ10.out; omega
        case rel => exact ⟨(x10_1), (x11_1), (wrap64 (x12_1 + 1)), (x103001_1), (x103002_1), (x103003_1), (x103004_1), (by first | rfl | (simp; done) | (simp [*]; done)), (by first | rfl | (simp; done) | (simp [*]; done)), (by first | rfl | (simp; done) | (simp [*]; done)), H', ⟨by have := HK1.out; have := HJ10.out; omega⟩, ⟨by exact bD BK101⟩, ⟨by exact bD BK102⟩, ⟨sD HB⟩⟩
       ·replace c29 := Bool.eq_false_iff.mpr c29
        subst c29
        have H1 : (paroleref32_machine.l1 kj10 l0 l1 a2 a3 x10_1 x11_1 x12_1 false 0 0 x103001_1 x103002_1 x103003_1 x103004_1 0 ((rd_T28 l1 x12_1).f0) ((rd_T28 l1 x12_1).f1) ((rd_T28 l1 x12_1).f2) ((rd_T28 l1 x12_1).f3) ((rd_T28 l1 x12_1).f4) ((rd_T28 l1 x12_1).f5) ((rd_T28 l1 x12_1).f6)) = some (r1, r2, r3, r4, r5, r6) := by rw [if_neg (show ¬ (false = true) by decide)] at H; exact H
        clear H; have H := H1; clear H1; have H' := aM H; clear H
        go_wp2
        go_loopg [14, 15] kj10 (fun kq v14 v15 w' => ∃ (x14_3 : Bool) (x15_3 : Int), v14 = .bool x14_3 ∧ v15 = .int .i64 x15_3 ∧ Aside0 (paroleref32_machine.l1 kq l0 l1 a2 a3 x10_1 x11_1 x12_1 x14_3 x15_3 0 x103001_1 x103002_1 x103003_1 x103004_1 0 ((rd_T28 l1 x12_1).f0) ((rd_T28 l1 x12_1).f1) ((rd_T28 l1 x12_1).f2) ((rd_T28 l1 x12_1).f3) ((rd_T28 l1 x12_1).f4) ((rd_T28 l1 x12_1).f5) ((rd_T28 l1 x12_1).f6) = some (r1, r2, r3, r4, r5, r6)) ∧ Aside0 (kq ≤ kj10) ∧ Aside0 (w'.heap[gb101]? = some (.cells #[.int .i64 0, .int .i64 0, .int .i64 0, .int .i64 0, .int .i64 0, .int .i64 0] 40 (0, 0))) ∧ Aside0 (w'.heap[gb102]? = some (.cells #[.int .i64 0, .int .i64 x103001_1, .int .i64 x103002_1, .int .i64 x103003_1, .int .i64 x103004_1, .int .i64 0] 40 (0, 0))) ∧ Aside0 (w'.heap[gb104]? = some (.cells #[.int .i64 ((rd_T28 l1 x12_1).f0), .int .i64 ((rd_T28 l1 x12_1).f1), .int .i64 ((rd_T28 l1 x12_1).f2), .int .i64 ((rd_T28 l1 x12_1).f3), .int .i64 ((rd_T28 l1 x12_1).f4), .int .i64 ((rd_T28 l1 x12_1).f5), .int .u64 ((rd_T28 l1 x12_1).f6)] 28 (0, 0))) ∧ Aside0 (Below w.heap.size w w'))
        case atStart => exact ⟨(false), (0), (by first | rfl | (simp; done) | (simp [*]; done)), (by first | rfl | (simp; done) | (simp [*]; done)), H', ⟨Nat.le_refl _⟩, ⟨by exact bD BK101⟩, ⟨by exact bD BK102⟩, ⟨by exact bD BK104⟩, ⟨sD HB⟩⟩
        case round =>
         clear H'
         try clear c1
         try clear p1
         try clear q1
         try clear hx1
         try clear c2
         try clear p2
         try clear c3
         try clear p6
         try clear c7
         try clear c9
         try clear c9b0
         try clear c10
         try clear c10b0
         try clear p10
         try clear q10
         try clear hx10
         try clear c13
         try clear c14
         try clear c16
         try clear c16b0
         try clear c16b1
         try clear c17
         try clear c17b0
         try clear c17b1
         try clear c19
         try clear c20
         try clear c23
         try clear c24
         try clear c26
         try clear c27
         try clear c29
         try clear hcz15_0
         try clear hcz15_1
         try clear hcz15_2
         try clear hcz15_3
         try clear hcz15_4
         try clear hcz15_5
         try clear hcz15_6
         try clear hcz21_0
         try clear hcz21_1
         try clear hcz21_2
         try clear hcz21_3
         try clear hcz21_4
         try clear hcz21_5
         try clear hcz21_6
         try clear hcz25_0
         try clear hcz25_1
         try clear hcz25_2
         try clear hcz25_3
         try clear hcz25_4
         try clear hcz25_5
         try clear hcz25_6
         try clear hcz28_0
         try clear hcz28_1
         try clear hcz28_2
         try clear hcz28_3
         try clear hcz28_4
         try clear hcz28_5
         try clear hcz28_6
         try clear hcz8_0
         try clear hcz8_1
         try clear hcz8_2
         try clear hcz8_3
         try clear hcz8_4
         try clear hcz8_5
         try clear hfz15_0
         try clear hfz15_1
         try clear hfz15_2
         try clear hfz15_3
         try clear hfz15_4
         try clear hfz15_5
         try clear hfz15_6
         try clear hfz21_0
         try clear hfz21_1
         try clear hfz21_2
         try clear hfz21_3
         try clear hfz21_4
         try clear hfz21_5
         try clear hfz21_6
         try clear hfz25_0
         try clear hfz25_1
         try clear hfz25_2
         try clear hfz25_3
         try clear hfz25_4
         try clear hfz25_5
         try clear hfz25_6
         try clear hfz28_0
         try clear hfz28_1
         try clear hfz28_2
         try clear hfz28_3
         try clear hfz28_4
         try clear hfz28_5
         try clear hfz28_6
         try clear hfz8_0
         try clear hfz8_1
         try clear hfz8_2
         try clear hfz8_3
         try clear hfz8_4
         try clear hfz8_5
         try clear hx103_0
         try clear hx103_1
         try clear hx103_2
         try clear hx103_3
         try clear hx103_4
         try clear hx103_5
         try clear hx103_6
         try clear p1
         try clear p10
         try clear p103
         try clear p2
         try clear q1
         try clear q10
         try clear q103
         obtain ⟨x14_3, x15_3, rfl, rfl, HA, HK3, BK101, BK102, BK104, HB⟩ := hrel
         cases gk with
         | zero => exact absurd HA.out (by simp [paroleref32_machine.l1])
         | succ k3 =>
          have H := HA.out; clear HA
          simp only [paroleref32_machine.l1] at H
          by_cases c30 : x15_3 < x12_1
          ·rw [if_pos c30] at H
           have c30b0 : decide (x15_3 < x12_1) = true := decide_eq_true c30
           clear c30
           by_cases c31 : x14_3 = true
           ·subst c31
            have H1 : (paroleref32_machine.l1 k3 l0 l1 a2 a3 x10_1 x11_1 x12_1 true (wrap64 (x15_3 + 1)) 0 x103001_1 x103002_1 x103003_1 x103004_1 0 ((rd_T28 l1 x12_1).f0) ((rd_T28 l1 x12_1).f1) ((rd_T28 l1 x12_1).f2) ((rd_T28 l1 x12_1).f3) ((rd_T28 l1 x12_1).f4) ((rd_T28 l1 x12_1).f5) ((rd_T28 l1 x12_1).f6)) = some (r1, r2, r3, r4, r5, r6) := by rw [if_pos rfl] at H; exact H
            clear H; have H := H1; clear H1; have H' := aM H; clear H
            try go_wp2
            replace BK101 := aM (blk_drew BK101.out); replace BK102 := aM (blk_drew BK102.out); replace BK104 := aM (blk_drew BK104.out); replace HB := aM (below_drew1 HB.out)
            refine start_ (n := 39) (S := fun w' => True) (ds := []) #[false, false, false, false, false, false, false, false, false, false, false, false, false, false, false, false, false, false, false, false, false, false, false, false, false, false, false, false, false, false, false, false, false, false, false, false, false, false, false] (by kernel_rfl) rfl rfl trivial (fun hHeld => ?_); refine with_tabW paroleref32_machine.tab13 paroleref32_machine.bits13 (fun HT_ HW_ => ?_)
            generalize wr.drew = w32 at BK101 BK102 BK104 HB hHeld ⊢
            refine pX (i := 0) (N := some 48) rfl rfl HT_ ?_
            refine pX (i := 1) (N := some 49) rfl rfl HT_ ?_
            refine pU (i := 2) (N := some 50) rfl rfl HT_ ?_
            refine pU (i := 3) (N := some 51) rfl rfl HT_ ?_
            refine pU (i := 4) (N := some 52) rfl rfl HT_ ?_
            refine pU (i := 5) (N := some 53) rfl rfl HT_ ?_
            refine pU (i := 6) (N := some 54) rfl rfl HT_ ?_
            refine pU (i := 7) (N := some 55) rfl rfl HT_ ?_
            refine pU (i := 8) (N := some 56) rfl rfl HT_ ?_
            refine pU (i := 9) (N := some 57) rfl rfl HT_ ?_
            refine pU (i := 10) (N := some 58) rfl rfl HT_ ?_
            refine pU (i := 11) (N := some 59) rfl rfl HT_ ?_
            refine pU (i := 12) (N := some 60) rfl rfl HT_ ?_
            refine pU (i := 13) (N := some 61) rfl rfl HT_ ?_
            refine pU (i := 14) (N := some 62) rfl rfl HT_ ?_
            refine pU (i := 15) (N := some 63) rfl rfl HT_ ?_
            refine pU (i := 16) (N := some 64) rfl rfl HT_ ?_
            refine pU (i := 17) (N := some 65) rfl rfl HT_ ?_
            refine pU (i := 18) (N := some 66) rfl rfl HT_ ?_
            refine pU (i := 19) (N := some 67) rfl rfl HT_ ?_
            refine pU (i := 20) (N := some 68) rfl rfl HT_ ?_
            refine pU (i := 21) (N := some 69) rfl rfl HT_ ?_
            refine pU (i := 22) (N := some 70) rfl rfl HT_ ?_
            refine pU (i := 23) (N := some 71) rfl rfl HT_ ?_
            refine pU (i := 24) (N := some 72) rfl rfl HT_ ?_
            refine pU (i := 25) (N := some 73) rfl rfl HT_ ?_
            refine pU (i := 26) (N := some 74) rfl rfl HT_ ?_
            refine pU (i := 27) (N := some 75) rfl rfl HT_ ?_
            refine pU (i := 28) (N := some 76) rfl rfl HT_ ?_
            refine pU (i := 29) (N := some 77) rfl rfl HT_ ?_
            refine pU (i := 30) (N := some 78) rfl rfl HT_ ?_
            refine pU (i := 31) (N := some 79) rfl rfl HT_ ?_
            refine pU (i := 32) (N := some 80) rfl rfl HT_ ?_
            refine pU (i := 33) (N := some 81) rfl rfl HT_ ?_
            refine pU (i := 34) (N := some 82) rfl rfl HT_ ?_
            refine pU (i := 35) (N := some 83) rfl rfl HT_ ?_
            refine pU (i := 36) (N := some 84) rfl rfl HT_ ?_
            refine pX (i := 37) (N := some 85) rfl rfl HT_ ?_
            refine pX (i := 38) (N := some 14) rfl rfl HT_ ?_
            refine done_ (done_of HT_.out (by kernel_rfl)) ?_
            try go_wp2
            go_roundg k3
            case measure => have := HK1.out; have := HJ10.out; have := HK3.out; omega
            case rel => exact ⟨(true), (wrap64 (x15_3 + 1)), (by first | rfl | (simp; done) | (simp [*]; done)), (by first | rfl | (simp; done) | (simp [*]; done)), H', ⟨by have := HK1.out; have := HJ10.out; have := HK3.out; omega⟩, ⟨by exact bD BK101⟩, ⟨by exact bD BK102⟩, ⟨by exact bD BK104⟩, ⟨sD HB⟩⟩
           ·replace c31 := Bool.eq_false_iff.mpr c31
            subst c31
            have H1 : (if 0 ≤ x15_3 then (if x15_3 < (l1.length : Int) then (if ((rd_T28 l1 x15_3).f0) = a3 then (if ((rd_T28 l1 x15_3).f2) = a2 then (if ((rd_T28 l1 x15_3).f1) = ((rd_T28 l1 x12_1).f1) then ((paroleref32_Right.f k3 l0 ((rd_T28 l1 x15_3).f0) ((rd_T28 l1 x15_3).f1) ((rd_T28 l1 x15_3).f2) ((rd_T28 l1 x15_3).f3) ((rd_T28 l1 x15_3).f4) ((rd_T28 l1 x15_3).f5) ((rd_T28 l1 x15_3).f6)).bind fun t110 => (paroleref32_machine.l1 k3 l0 l1 a2 a3 x10_1 x11_1 x12_1 (t110 == 0) (wrap64 (x15_3 + 1)) 0 x103001_1 x103002_1 x103003_1 x103004_1 0 ((rd_T28 l1 x12_1).f0) ((rd_T28 l1 x12_1).f1) ((rd_T28 l1 x12_1).f2) ((rd_T28 l1 x12_1).f3) ((rd_T28 l1 x12_1).f4) ((rd_T28 l1 x12_1).f5) ((rd_T28 l1 x12_1).f6))) else (paroleref32_machine.l1 k3 l0 l1 a2 a3 x10_1 x11_1 x12_1 false (wrap64 (x15_3 + 1)) 0 x103001_1 x103002_1 x103003_1 x103004_1 0 ((rd_T28 l1 x12_1).f0) ((rd_T28 l1 x12_1).f1) ((rd_T28 l1 x12_1).f2) ((rd_T28 l1 x12_1).f3) ((rd_T28 l1 x12_1).f4) ((rd_T28 l1 x12_1).f5) ((rd_T28 l1 x12_1).f6))) else (paroleref32_machine.l1 k3 l0 l1 a2 a3 x10_1 x11_1 x12_1 false (wrap64 (x15_3 + 1)) 0 x103001_1 x103002_1 x103003_1 x103004_1 0 ((rd_T28 l1 x12_1).f0) ((rd_T28 l1 x12_1).f1) ((rd_T28 l1 x12_1).f2) ((rd_T28 l1 x12_1).f3) ((rd_T28 l1 x12_1).f4) ((rd_T28 l1 x12_1).f5) ((rd_T28 l1 x12_1).f6))) else (paroleref32_machine.l1 k3 l0 l1 a2 a3 x10_1 x11_1 x12_1 false (wrap64 (x15_3 + 1)) 0 x103001_1 x103002_1 x103003_1 x103004_1 0 ((rd_T28 l1 x12_1).f0) ((rd_T28 l1 x12_1).f1) ((rd_T28 l1 x12_1).f2) ((rd_T28 l1 x12_1).f3) ((rd_T28 l1 x12_1).f4) ((rd_T28 l1 x12_1).f5) ((rd_T28 l1 x12_1).f6))) else (none)) else (none)) = some (r1, r2, r3, r4, r5, r6) := by rw [if_neg (show ¬ (false = true) by decide)] at H; exact H
            clear H; have H := H1; clear H1
            by_cases c33 : 0 ≤ x15_3
            ·rw [if_pos c33] at H
             have c33b0 : decide (0 ≤ x15_3) = true := decide_eq_true c33
             clear c33
             by_cases c34 : x15_3 < (l1.length : Int)
             ·rw [if_pos c34] at H
              have c34b0 : decide (x15_3 < (l1.length : Int)) = true := decide_eq_true c34
              clear c34
              by_cases c35 : ((rd_T28 l1 x15_3).f0) = a3
              ·rw [if_pos c35] at H
               have c35b0 : (((rd_T28 l1 x15_3).f0) == a3) = true := beq_iff_eq.mpr c35
               have c35b1 : (((rd_T28 l1 x15_3).f0) != a3) = false := bne_eq_false_iff_eq.mpr c35
               clear c35
               by_cases c36 : ((rd_T28 l1 x15_3).f2) = a2
               ·rw [if_pos c36] at H
                have c36b0 : (((rd_T28 l1 x15_3).f2) == a2) = true := beq_iff_eq.mpr c36
                have c36b1 : (((rd_T28 l1 x15_3).f2) != a2) = false := bne_eq_false_iff_eq.mpr c36
                clear c36
                by_cases c37 : ((rd_T28 l1 x15_3).f1) = ((rd_T28 l1 x12_1).f1)
                ·rw [if_pos c37] at H
                 have c37b0 : (((rd_T28 l1 x15_3).f1) == ((rd_T28 l1 x12_1).f1)) = true := beq_iff_eq.mpr c37
                 have c37b1 : (((rd_T28 l1 x15_3).f1) != ((rd_T28 l1 x12_1).f1)) = false := bne_eq_false_iff_eq.mpr c37
                 clear c37; replace H := Option.bind_eq_some_iff.mp H
                 obtain ⟨t110, A380, H⟩ := H
                 replace H : (paroleref32_machine.l1 k3 l0 l1 a2 a3 x10_1 x11_1 x12_1 (t110 == 0) (wrap64 (x15_3 + 1)) 0 x103001_1 x103002_1 x103003_1 x103004_1 0 ((rd_T28 l1 x12_1).f0) ((rd_T28 l1 x12_1).f1) ((rd_T28 l1 x12_1).f2) ((rd_T28 l1 x12_1).f3) ((rd_T28 l1 x12_1).f4) ((rd_T28 l1 x12_1).f5) ((rd_T28 l1 x12_1).f6)) = some (r1, r2, r3, r4, r5, r6) := H
                 have A38 := aM A380; clear A380; have H' := aM H; clear H
                 try go_wp2
                 replace BK101 := aM (blk_drew BK101.out); replace BK102 := aM (blk_drew BK102.out); replace BK104 := aM (blk_drew BK104.out); replace HB := aM (below_drew1 HB.out)
                 have p106 : 0 ≤ (x15_3 : Int) := of_decide_eq_true (by first | (with_reducible assumption) | assumption)
                 have q106 : x15_3 < (l1.length : Int) := of_decide_eq_true (by first | (with_reducible assumption) | assumption)
                 obtain ⟨ad106, e106, hx106_0, hx106_1, hx106_2, hx106_3, hx106_4, hx106_5, hx106_6⟩ := at_T28 HR1.out x15_3 p106 q106
                 have hw106_6 := hx106_6; have hw106_5 := hx106_5; have hw106_4 := hx106_4; have hw106_3 := hx106_3; have hw106_2 := hx106_2; have hw106_1 := hx106_1; have hw106_0 := hx106_0
                 obtain rfl : ad103 = ad106 := (by injection e106)
                 replace hx106_0 := (HB.out.cell (World.block_lt_of_cell? w _ hx106_0)).trans hx106_0; replace hx106_1 := (HB.out.cell (World.block_lt_of_cell? w _ hx106_1)).trans hx106_1; replace hx106_2 := (HB.out.cell (World.block_lt_of_cell? w _ hx106_2)).trans hx106_2; replace hx106_3 := (HB.out.cell (World.block_lt_of_cell? w _ hx106_3)).trans hx106_3; replace hx106_4 := (HB.out.cell (World.block_lt_of_cell? w _ hx106_4)).trans hx106_4; replace hx106_5 := (HB.out.cell (World.block_lt_of_cell? w _ hx106_5)).trans hx106_5; replace hx106_6 := (HB.out.cell (World.block_lt_of_cell? w _ hx106_6)).trans hx106_6; replace p106 := eq_true p106; replace q106 := eq_true q106
                 have p107 : 0 ≤ (x15_3 : Int) := of_decide_eq_true (by first | (with_reducible assumption) | assumption)
                 have q107 : x15_3 < (l1.length : Int) := of_decide_eq_true (by first | (with_reducible assumption) | assumption)
                 obtain ⟨ad107, e107, hx107_0, hx107_1, hx107_2, hx107_3, hx107_4, hx107_5, hx107_6⟩ := at_T28 HR1.out x15_3 p107 q107
                 have hw107_6 := hx107_6; have hw107_5 := hx107_5; have hw107_4 := hx107_4; have hw107_3 := hx107_3; have hw107_2 := hx107_2; have hw107_1 := hx107_1; have hw107_0 := hx107_0
                 obtain rfl : ad103 = ad107 := (by injection e107)
                 replace hx107_0 := (HB.out.cell (World.block_lt_of_cell? w _ hx107_0)).trans hx107_0; replace hx107_1 := (HB.out.cell (World.block_lt_of_cell? w _ hx107_1)).trans hx107_1; replace hx107_2 := (HB.out.cell (World.block_lt_of_cell? w _ hx107_2)).trans hx107_2; replace hx107_3 := (HB.out.cell (World.block_lt_of_cell? w _ hx107_3)).trans hx107_3; replace hx107_4 := (HB.out.cell (World.block_lt_of_cell? w _ hx107_4)).trans hx107_4; replace hx107_5 := (HB.out.cell (World.block_lt_of_cell? w _ hx107_5)).trans hx107_5; replace hx107_6 := (HB.out.cell (World.block_lt_of_cell? w _ hx107_6)).trans hx107_6; replace p107 := eq_true p107; replace q107 := eq_true q107
                 have p108 : 0 ≤ (x15_3 : Int) := of_decide_eq_true (by first | (with_reducible assumption) | assumption)
                 have q108 : x15_3 < (l1.length : Int) := of_decide_eq_true (by first | (with_reducible assumption) | assumption)
                 obtain ⟨ad108, e108, hx108_0, hx108_1, hx108_2, hx108_3, hx108_4, hx108_5, hx108_6⟩ := at_T28 HR1.out x15_3 p108 q108
                 have hw108_6 := hx108_6; have hw108_5 := hx108_5; have hw108_4 := hx108_4; have hw108_3 := hx108_3; have hw108_2 := hx108_2; have hw108_1 := hx108_1; have hw108_0 := hx108_0
                 obtain rfl : ad103 = ad108 := (by injection e108)
                 replace hx108_0 := (HB.out.cell (World.block_lt_of_cell? w _ hx108_0)).trans hx108_0; replace hx108_1 := (HB.out.cell (World.block_lt_of_cell? w _ hx108_1)).trans hx108_1; replace hx108_2 := (HB.out.cell (World.block_lt_of_cell? w _ hx108_2)).trans hx108_2; replace hx108_3 := (HB.out.cell (World.block_lt_of_cell? w _ hx108_3)).trans hx108_3; replace hx108_4 := (HB.out.cell (World.block_lt_of_cell? w _ hx108_4)).trans hx108_4; replace hx108_5 := (HB.out.cell (World.block_lt_of_cell? w _ hx108_5)).trans hx108_5; replace hx108_6 := (HB.out.cell (World.block_lt_of_cell? w _ hx108_6)).trans hx108_6; replace p108 := eq_true p108; replace q108 := eq_true q108
                 have p109 : 0 ≤ (x15_3 : Int) := of_decide_eq_true (by first | (with_reducible assumption) | assumption)
                 have q109 : x15_3 < (l1.length : Int) := of_decide_eq_true (by first | (with_reducible assumption) | assumption)
                 obtain ⟨ad109, e109, hx109_0, hx109_1, hx109_2, hx109_3, hx109_4, hx109_5, hx109_6⟩ := at_T28 HR1.out x15_3 p109 q109
                 have hw109_6 := hx109_6; have hw109_5 := hx109_5; have hw109_4 := hx109_4; have hw109_3 := hx109_3; have hw109_2 := hx109_2; have hw109_1 := hx109_1; have hw109_0 := hx109_0
                 obtain rfl : ad103 = ad109 := (by injection e109)
                 replace hx109_0 := (HB.out.cell (World.block_lt_of_cell? w _ hx109_0)).trans hx109_0; replace hx109_1 := (HB.out.cell (World.block_lt_of_cell? w _ hx109_1)).trans hx109_1; replace hx109_2 := (HB.out.cell (World.block_lt_of_cell? w _ hx109_2)).trans hx109_2; replace hx109_3 := (HB.out.cell (World.block_lt_of_cell? w _ hx109_3)).trans hx109_3; replace hx109_4 := (HB.out.cell (World.block_lt_of_cell? w _ hx109_4)).trans hx109_4; replace hx109_5 := (HB.out.cell (World.block_lt_of_cell? w _ hx109_5)).trans hx109_5; replace hx109_6 := (HB.out.cell (World.block_lt_of_cell? w _ hx109_6)).trans hx109_6; replace p109 := eq_true p109; replace q109 := eq_true q109
                 refine start_ (n := 39) (S := fun w' => w'.cell? ⟨gb104, 0, none⟩ = some (.int .i64 ((rd_T28 l1 x12_1).f0)) ∧ w'.cell? ⟨gb104, 1, none⟩ = some (.int .i64 ((rd_T28 l1 x12_1).f1)) ∧ w'.cell? ⟨gb104, 2, none⟩ = some (.int .i64 ((rd_T28 l1 x12_1).f2)) ∧ w'.cell? ⟨gb104, 3, none⟩ = some (.int .i64 ((rd_T28 l1 x12_1).f3)) ∧ w'.cell? ⟨gb104, 4, none⟩ = some (.int .i64 ((rd_T28 l1 x12_1).f4)) ∧ w'.cell? ⟨gb104, 5, none⟩ = some (.int .i64 ((rd_T28 l1 x12_1).f5)) ∧ w'.cell? ⟨gb104, 6, none⟩ = some (.int .u64 ((rd_T28 l1 x12_1).f6)) ∧ w'.cell? (ad103.add ((x15_3).toNat * 7)) = some (.int .i64 ((rd_T28 l1 x15_3).f0)) ∧ w'.cell? ⟨(ad103.add ((x15_3).toNat * 7)).block, (ad103.add ((x15_3).toNat * 7)).off + 1, none⟩ = some (.int .i64 ((rd_T28 l1 x15_3).f1)) ∧ w'.cell? ⟨(ad103.add ((x15_3).toNat * 7)).block, (ad103.add ((x15_3).toNat * 7)).off + 2, none⟩ = some (.int .i64 ((rd_T28 l1 x15_3).f2)) ∧ w'.cell? ⟨(ad103.add ((x15_3).toNat * 7)).block, (ad103.add ((x15_3).toNat * 7)).off + 3, none⟩ = some (.int .i64 ((rd_T28 l1 x15_3).f3)) ∧ w'.cell? ⟨(ad103.add ((x15_3).toNat * 7)).block, (ad103.add ((x15_3).toNat * 7)).off + 4, none⟩ = some (.int .i64 ((rd_T28 l1 x15_3).f4)) ∧ w'.cell? ⟨(ad103.add ((x15_3).toNat * 7)).block, (ad103.add ((x15_3).toNat * 7)).off + 5, none⟩ = some (.int .i64 ((rd_T28 l1 x15_3).f5)) ∧ w'.cell? ⟨(ad103.add ((x15_3).toNat * 7)).block, (ad103.add ((x15_3).toNat * 7)).off + 6, none⟩ = some (.int .u64 ((rd_T28 l1 x15_3).f6)) ∧ w'.cell? (ad103.add ((x15_3).toNat * 7)) = some (.int .i64 ((rd_T28 l1 x15_3).f0)) ∧ w'.cell? ⟨(ad103.add ((x15_3).toNat * 7)).block, (ad103.add ((x15_3).toNat * 7)).off + 1, none⟩ = some (.int .i64 ((rd_T28 l1 x15_3).f1)) ∧ w'.cell? ⟨(ad103.add ((x15_3).toNat * 7)).block, (ad103.add ((x15_3).toNat * 7)).off + 2, none⟩ = some (.int .i64 ((rd_T28 l1 x15_3).f2)) ∧ w'.cell? ⟨(ad103.add ((x15_3).toNat * 7)).block, (ad103.add ((x15_3).toNat * 7)).off + 3, none⟩ = some (.int .i64 ((rd_T28 l1 x15_3).f3)) ∧ w'.cell? ⟨(ad103.add ((x15_3).toNat * 7)).block, (ad103.add ((x15_3).toNat * 7)).off + 4, none⟩ = some (.int .i64 ((rd_T28 l1 x15_3).f4)) ∧ w'.cell? ⟨(ad103.add ((x15_3).toNat * 7)).block, (ad103.add ((x15_3).toNat * 7)).off + 5, none⟩ = some (.int .i64 ((rd_T28 l1 x15_3).f5)) ∧ w'.cell? ⟨(ad103.add ((x15_3).toNat * 7)).block, (ad103.add ((x15_3).toNat * 7)).off + 6, none⟩ = some (.int .u64 ((rd_T28 l1 x15_3).f6)) ∧ w'.cell? (ad103.add ((x15_3).toNat * 7)) = some (.int .i64 ((rd_T28 l1 x15_3).f0)) ∧ w'.cell? ⟨(ad103.add ((x15_3).toNat * 7)).block, (ad103.add ((x15_3).toNat * 7)).off + 1, none⟩ = some (.int .i64 ((rd_T28 l1 x15_3).f1)) ∧ w'.cell? ⟨(ad103.add ((x15_3).toNat * 7)).block, (ad103.add ((x15_3).toNat * 7)).off + 2, none⟩ = some (.int .i64 ((rd_T28 l1 x15_3).f2)) ∧ w'.cell? ⟨(ad103.add ((x15_3).toNat * 7)).block, (ad103.add ((x15_3).toNat * 7)).off + 3, none⟩ = some (.int .i64 ((rd_T28 l1 x15_3).f3)) ∧ w'.cell? ⟨(ad103.add ((x15_3).toNat * 7)).block, (ad103.add ((x15_3).toNat * 7)).off + 4, none⟩ = some (.int .i64 ((rd_T28 l1 x15_3).f4)) ∧ w'.cell? ⟨(ad103.add ((x15_3).toNat * 7)).block, (ad103.add ((x15_3).toNat * 7)).off + 5, none⟩ = some (.int .i64 ((rd_T28 l1 x15_3).f5)) ∧ w'.cell? ⟨(ad103.add ((x15_3).toNat * 7)).block, (ad103.add ((x15_3).toNat * 7)).off + 6, none⟩ = some (.int .u64 ((rd_T28 l1 x15_3).f6)) ∧ w'.cell? (ad103.add ((x15_3).toNat * 7)) = some (.int .i64 ((rd_T28 l1 x15_3).f0)) ∧ w'.cell? ⟨(ad103.add ((x15_3).toNat * 7)).block, (ad103.add ((x15_3).toNat * 7)).off + 1, none⟩ = some (.int .i64 ((rd_T28 l1 x15_3).f1)) ∧ w'.cell? ⟨(ad103.add ((x15_3).toNat * 7)).block, (ad103.add ((x15_3).toNat * 7)).off + 2, none⟩ = some (.int .i64 ((rd_T28 l1 x15_3).f2)) ∧ w'.cell? ⟨(ad103.add ((x15_3).toNat * 7)).block, (ad103.add ((x15_3).toNat * 7)).off + 3, none⟩ = some (.int .i64 ((rd_T28 l1 x15_3).f3)) ∧ w'.cell? ⟨(ad103.add ((x15_3).toNat * 7)).block, (ad103.add ((x15_3).toNat * 7)).off + 4, none⟩ = some (.int .i64 ((rd_T28 l1 x15_3).f4)) ∧ w'.cell? ⟨(ad103.add ((x15_3).toNat * 7)).block, (ad103.add ((x15_3).toNat * 7)).off + 5, none⟩ = some (.int .i64 ((rd_T28 l1 x15_3).f5)) ∧ w'.cell? ⟨(ad103.add ((x15_3).toNat * 7)).block, (ad103.add ((x15_3).toNat * 7)).off + 6, none⟩ = some (.int .u64 ((rd_T28 l1 x15_3).f6))) (ds := []) #[false, false, false, false, false, false, false, false, false, false, false, false, false, false, false, false, false, false, false, false, false, false, false, false, false, false, false, false, false, false, false, false, false, false, false, false, false, false, false] (by kernel_rfl) rfl rfl ⟨cE BK104 0, cE BK104 1, cE BK104 2, cE BK104 3, cE BK104 4, cE BK104 5, cE BK104 6, ((HB.out.cell (World.block_lt_of_cell? w _ hw106_0)).trans hw106_0), ((HB.out.cell (World.block_lt_of_cell? w _ hw106_1)).trans hw106_1), ((HB.out.cell (World.block_lt_of_cell? w _ hw106_2)).trans hw106_2), ((HB.out.cell (World.block_lt_of_cell? w _ hw106_3)).trans hw106_3), ((HB.out.cell (World.block_lt_of_cell? w _ hw106_4)).trans hw106_4), ((HB.out.cell (World.block_lt_of_cell? w _ hw106_5)).trans hw106_5), ((HB.out.cell (World.block_lt_of_cell? w _ hw106_6)).trans hw106_6), ((HB.out.cell (World.block_lt_of_cell? w _ hw107_0)).trans hw107_0), ((HB.out.cell (World.block_lt_of_cell? w _ hw107_1)).trans hw107_1), ((HB.out.cell (World.block_lt_of_cell? w _ hw107_2)).trans hw107_2), ((HB.out.cell (World.block_lt_of_cell? w _ hw107_3)).trans hw107_3), ((HB.out.cell (World.block_lt_of_cell? w _ hw107_4)).trans hw107_4), ((HB.out.cell (World.block_lt_of_cell? w _ hw107_5)).trans hw107_5), ((HB.out.cell (World.block_lt_of_cell? w _ hw107_6)).trans hw107_6), ((HB.out.cell (World.block_lt_of_cell? w _ hw108_0)).trans hw108_0), ((HB.out.cell (World.block_lt_of_cell? w _ hw108_1)).trans hw108_1), ((HB.out.cell (World.block_lt_of_cell? w _ hw108_2)).trans hw108_2), ((HB.out.cell (World.block_lt_of_cell? w _ hw108_3)).trans hw108_3), ((HB.out.cell (World.block_lt_of_cell? w _ hw108_4)).trans hw108_4), ((HB.out.cell (World.block_lt_of_cell? w _ hw108_5)).trans hw108_5), ((HB.out.cell (World.block_lt_of_cell? w _ hw108_6)).trans hw108_6), ((HB.out.cell (World.block_lt_of_cell? w _ hw109_0)).trans hw109_0), ((HB.out.cell (World.block_lt_of_cell? w _ hw109_1)).trans hw109_1), ((HB.out.cell (World.block_lt_of_cell? w _ hw109_2)).trans hw109_2), ((HB.out.cell (World.block_lt_of_cell? w _ hw109_3)).trans hw109_3), ((HB.out.cell (World.block_lt_of_cell? w _ hw109_4)).trans hw109_4), ((HB.out.cell (World.block_lt_of_cell? w _ hw109_5)).trans hw109_5), ((HB.out.cell (World.block_lt_of_cell? w _ hw109_6)).trans hw109_6)⟩ (fun hHeld => ?_); refine with_tabW paroleref32_machine.tab13 paroleref32_machine.bits13 (fun HT_ HW_ => ?_)
                 generalize wr.drew = w39 at BK101 BK102 BK104 HB hx106_0 hx106_1 hx106_2 hx106_3 hx106_4 hx106_5 hx106_6 hx107_0 hx107_1 hx107_2 hx107_3 hx107_4 hx107_5 hx107_6 hx108_0 hx108_1 hx108_2 hx108_3 hx108_4 hx108_5 hx108_6 hx109_0 hx109_1 hx109_2 hx109_3 hx109_4 hx109_5 hx109_6 hHeld ⊢
                 refine pX (i := 0) (N := some 48) rfl rfl HT_ ?_
                 refine pX (i := 1) (N := some 49) rfl rfl HT_ ?_
                 refine pX (i := 2) (N := some 50) rfl rfl HT_ ?_
                 refine pX (i := 3) (N := some 51) rfl rfl HT_ ?_
                 refine pX (i := 4) (N := some 52) rfl rfl HT_ ?_
                 refine pX (i := 5) (N := some 53) rfl rfl HT_ ?_
                 refine pX (i := 7) (N := some 55) rfl rfl HT_ ?_
                 refine tX (i := 6) (N := some 54) rfl rfl HT_ HW_ hHeld (Or.inl ⟨by rfl, by rintro w' ⟨s0, s1, s2, s3, s4, s5, s6, s7, s8, s9, s10, s11, s12, s13, s14, s15, s16, s17, s18, s19, s20, s21, s22, s23, s24, s25, s26, s27, s28, s29, s30, s31, s32, s33, s34⟩; go_simp; with_reducible rfl⟩) ?_
                 refine pX (i := 8) (N := some 56) rfl rfl HT_ ?_
                 refine pX (i := 9) (N := some 57) rfl rfl HT_ ?_
                 refine pX (i := 10) (N := some 58) rfl rfl HT_ ?_
                 refine pX (i := 11) (N := some 59) rfl rfl HT_ ?_
                 refine pX (i := 12) (N := some 60) rfl rfl HT_ ?_
                 refine pX (i := 13) (N := some 61) rfl rfl HT_ ?_
                 refine pX (i := 15) (N := some 63) rfl rfl HT_ ?_
                 refine tX (i := 14) (N := some 62) rfl rfl HT_ HW_ hHeld (Or.inl ⟨by rfl, by rintro w' ⟨s0, s1, s2, s3, s4, s5, s6, s7, s8, s9, s10, s11, s12, s13, s14, s15, s16, s17, s18, s19, s20, s21, s22, s23, s24, s25, s26, s27, s28, s29, s30, s31, s32, s33, s34⟩; go_simp; with_reducible rfl⟩) ?_
                 refine pX (i := 16) (N := some 64) rfl rfl HT_ ?_
                 refine pX (i := 17) (N := some 65) rfl rfl HT_ ?_
                 refine pX (i := 18) (N := some 66) rfl rfl HT_ ?_
                 refine pX (i := 19) (N := some 67) rfl rfl HT_ ?_
                 refine pX (i := 20) (N := some 68) rfl rfl HT_ ?_
                 refine pX (i := 21) (N := some 69) rfl rfl HT_ ?_
                 refine pX (i := 22) (N := some 70) rfl rfl HT_ ?_
                 refine pX (i := 24) (N := some 72) rfl rfl HT_ ?_
                 refine tX (i := 23) (N := some 71) rfl rfl HT_ HW_ hHeld (Or.inl ⟨by rfl, by rintro w' ⟨s0, s1, s2, s3, s4, s5, s6, s7, s8, s9, s10, s11, s12, s13, s14, s15, s16, s17, s18, s19, s20, s21, s22, s23, s24, s25, s26, s27, s28, s29, s30, s31, s32, s33, s34⟩; go_simp; with_reducible rfl⟩) ?_
                 refine tX (i := 25) (N := some 73) rfl rfl HT_ HW_ hHeld (Or.inl ⟨by rfl, by rintro w' ⟨s0, s1, s2, s3, s4, s5, s6, s7, s8, s9, s10, s11, s12, s13, s14, s15, s16, s17, s18, s19, s20, s21, s22, s23, s24, s25, s26, s27, s28, s29, s30, s31, s32, s33, s34⟩; go_simp; with_reducible rfl⟩) ?_
                 refine pX (i := 26) (N := some 74) rfl rfl HT_ ?_
                 refine pX (i := 27) (N := some 75) rfl rfl HT_ ?_
                 refine pX (i := 28) (N := some 76) rfl rfl HT_ ?_
                 refine pX (i := 29) (N := some 77) rfl rfl HT_ ?_
                 refine pX (i := 30) (N := some 78) rfl rfl HT_ ?_
                 refine pX (i := 31) (N := some 79) rfl rfl HT_ ?_
                 refine pX (i := 32) (N := some 80) rfl rfl HT_ ?_
                 refine tX (i := 33) (N := some 81) rfl rfl HT_ HW_ hHeld (Or.inl ⟨by rfl, by rintro w' ⟨s0, s1, s2, s3, s4, s5, s6, s7, s8, s9, s10, s11, s12, s13, s14, s15, s16, s17, s18, s19, s20, s21, s22, s23, s24, s25, s26, s27, s28, s29, s30, s31, s32, s33, s34⟩; go_simp; with_reducible rfl⟩) ?_
                 refine oX (i := 34) (N := some 82) rfl rfl HT_ (fun K hK => ?_)
                 refine gS Try.func18 #[.slice A0 l0.length c0, .agg #[.int .i64 ((rd_T28 l1 x15_3).f0), .int .i64 ((rd_T28 l1 x15_3).f1), .int .i64 ((rd_T28 l1 x15_3).f2), .int .i64 ((rd_T28 l1 x15_3).f3), .int .i64 ((rd_T28 l1 x15_3).f4), .int .i64 ((rd_T28 l1 x15_3).f5), .int .u64 ((rd_T28 l1 x15_3).f6)]] ?_
                 with_reducible refine (paroleref32_Right.calls k3 _ _ l0 ((rd_T28 l1 x15_3).f0) ((rd_T28 l1 x15_3).f1) ((rd_T28 l1 x15_3).f2) ((rd_T28 l1 x15_3).f3) ((rd_T28 l1 x15_3).f4) ((rd_T28 l1 x15_3).f5) ((rd_T28 l1 x15_3).f6) t110 _ ?side1 ?side2 A38.out).mono ?_
                 (case side1 => exact cC HR0 HB)
                 (case side2 => exact HC0.out)
                 rintro e w40 ⟨rfl, hb⟩
                 refine ⟨_, rfl, ?_⟩
                 replace BK101 := bB BK101 hb; replace BK102 := bB BK102 hb; replace BK104 := bB BK104 hb; replace HB := sB HB hb; (try clear hb); (try clear hb2); (try clear hk); (try clear hi)
                 refine hK.out _ _ ⟨cE BK104 0, cE BK104 1, cE BK104 2, cE BK104 3, cE BK104 4, cE BK104 5, cE BK104 6, ((HB.out.cell (World.block_lt_of_cell? w _ hw106_0)).trans hw106_0), ((HB.out.cell (World.block_lt_of_cell? w _ hw106_1)).trans hw106_1), ((HB.out.cell (World.block_lt_of_cell? w _ hw106_2)).trans hw106_2), ((HB.out.cell (World.block_lt_of_cell? w _ hw106_3)).trans hw106_3), ((HB.out.cell (World.block_lt_of_cell? w _ hw106_4)).trans hw106_4), ((HB.out.cell (World.block_lt_of_cell? w _ hw106_5)).trans hw106_5), ((HB.out.cell (World.block_lt_of_cell? w _ hw106_6)).trans hw106_6), ((HB.out.cell (World.block_lt_of_cell? w _ hw107_0)).trans hw107_0), ((HB.out.cell (World.block_lt_of_cell? w _ hw107_1)).trans hw107_1), ((HB.out.cell (World.block_lt_of_cell? w _ hw107_2)).trans hw107_2), ((HB.out.cell (World.block_lt_of_cell? w _ hw107_3)).trans hw107_3), ((HB.out.cell (World.block_lt_of_cell? w _ hw107_4)).trans hw107_4), ((HB.out.cell (World.block_lt_of_cell? w _ hw107_5)).trans hw107_5), ((HB.out.cell (World.block_lt_of_cell? w _ hw107_6)).trans hw107_6), ((HB.out.cell (World.block_lt_of_cell? w _ hw108_0)).trans hw108_0), ((HB.out.cell (World.block_lt_of_cell? w _ hw108_1)).trans hw108_1), ((HB.out.cell (World.block_lt_of_cell? w _ hw108_2)).trans hw108_2), ((HB.out.cell (World.block_lt_of_cell? w _ hw108_3)).trans hw108_3), ((HB.out.cell (World.block_lt_of_cell? w _ hw108_4)).trans hw108_4), ((HB.out.cell (World.block_lt_of_cell? w _ hw108_5)).trans hw108_5), ((HB.out.cell (World.block_lt_of_cell? w _ hw108_6)).trans hw108_6), ((HB.out.cell (World.block_lt_of_cell? w _ hw109_0)).trans hw109_0), ((HB.out.cell (World.block_lt_of_cell? w _ hw109_1)).trans hw109_1), ((HB.out.cell (World.block_lt_of_cell? w _ hw109_2)).trans hw109_2), ((HB.out.cell (World.block_lt_of_cell? w _ hw109_3)).trans hw109_3), ((HB.out.cell (World.block_lt_of_cell? w _ hw109_4)).trans hw109_4), ((HB.out.cell (World.block_lt_of_cell? w _ hw109_5)).trans hw109_5), ((HB.out.cell (World.block_lt_of_cell? w _ hw109_6)).trans hw109_6)⟩ (fun hHeld => ?_)
                 clear hK K
                 refine nX (some 82) ?_
                 refine pX (i := 35) (N := some 83) rfl rfl HT_ ?_
                 refine pX (i := 36) (N := some 84) rfl rfl HT_ ?_
                 refine pX (i := 37) (N := some 85) rfl rfl HT_ ?_
                 refine pX (i := 38) (N := some 14) rfl rfl HT_ ?_
                 refine done_ (done_of HT_.out (by kernel_rfl)) ?_
                 try go_wp2
                 go_roundg k3
                 case measure => have := HK1.out; have := HJ10.out; have := HK3.out; omega
                 case rel => exact ⟨((t110 == 0)), (wrap64 (x15_3 + 1)), (by first | rfl | (simp; done) | (simp [*]; done)), (by first | rfl | (simp; done) | (simp [*]; done)), H', ⟨by have := HK1.out; have := HJ10.out; have := HK3.out; omega⟩, ⟨by exact bD BK101⟩, ⟨by exact bD BK102⟩, ⟨by exact bD BK104⟩, ⟨sD HB⟩⟩
                ·rw [if_neg c37] at H
                 have c37b0 : (((rd_T28 l1 x15_3).f1) == ((rd_T28 l1 x12_1).f1)) = false := beq_eq_false_iff_ne.mpr c37
                 have c37b1 : (((rd_T28 l1 x15_3).f1) != ((rd_T28 l1 x12_1).f1)) = true := bne_iff_ne.mpr c37
                 have H' := aM H; clear H
                 try go_wp2
                 replace BK101 := aM (blk_drew BK101.out); replace BK102 := aM (blk_drew BK102.out); replace BK104 := aM (blk_drew BK104.out); replace HB := aM (below_drew1 HB.out)
                 have p106 : 0 ≤ (x15_3 : Int) := of_decide_eq_true (by first | (with_reducible assumption) | assumption)
                 have q106 : x15_3 < (l1.length : Int) := of_decide_eq_true (by first | (with_reducible assumption) | assumption)
                 obtain ⟨ad106, e106, hx106_0, hx106_1, hx106_2, hx106_3, hx106_4, hx106_5, hx106_6⟩ := at_T28 HR1.out x15_3 p106 q106
                 have hw106_6 := hx106_6; have hw106_5 := hx106_5; have hw106_4 := hx106_4; have hw106_3 := hx106_3; have hw106_2 := hx106_2; have hw106_1 := hx106_1; have hw106_0 := hx106_0
                 obtain rfl : ad103 = ad106 := (by injection e106)
                 replace hx106_0 := (HB.out.cell (World.block_lt_of_cell? w _ hx106_0)).trans hx106_0; replace hx106_1 := (HB.out.cell (World.block_lt_of_cell? w _ hx106_1)).trans hx106_1; replace hx106_2 := (HB.out.cell (World.block_lt_of_cell? w _ hx106_2)).trans hx106_2; replace hx106_3 := (HB.out.cell (World.block_lt_of_cell? w _ hx106_3)).trans hx106_3; replace hx106_4 := (HB.out.cell (World.block_lt_of_cell? w _ hx106_4)).trans hx106_4; replace hx106_5 := (HB.out.cell (World.block_lt_of_cell? w _ hx106_5)).trans hx106_5; replace hx106_6 := (HB.out.cell (World.block_lt_of_cell? w _ hx106_6)).trans hx106_6; replace p106 := eq_true p106; replace q106 := eq_true q106
                 have p107 : 0 ≤ (x15_3 : Int) := of_decide_eq_true (by first | (with_reducible assumption) | assumption)
                 have q107 : x15_3 < (l1.length : Int) := of_decide_eq_true (by first | (with_reducible assumption) | assumption)
                 obtain ⟨ad107, e107, hx107_0, hx107_1, hx107_2, hx107_3, hx107_4, hx107_5, hx107_6⟩ := at_T28 HR1.out x15_3 p107 q107
                 have hw107_6 := hx107_6; have hw107_5 := hx107_5; have hw107_4 := hx107_4; have hw107_3 := hx107_3; have hw107_2 := hx107_2; have hw107_1 := hx107_1; have hw107_0 := hx107_0
                 obtain rfl : ad103 = ad107 := (by injection e107)
                 replace hx107_0 := (HB.out.cell (World.block_lt_of_cell? w _ hx107_0)).trans hx107_0; replace hx107_1 := (HB.out.cell (World.block_lt_of_cell? w _ hx107_1)).trans hx107_1; replace hx107_2 := (HB.out.cell (World.block_lt_of_cell? w _ hx107_2)).trans hx107_2; replace hx107_3 := (HB.out.cell (World.block_lt_of_cell? w _ hx107_3)).trans hx107_3; replace hx107_4 := (HB.out.cell (World.block_lt_of_cell? w _ hx107_4)).trans hx107_4; replace hx107_5 := (HB.out.cell (World.block_lt_of_cell? w _ hx107_5)).trans hx107_5; replace hx107_6 := (HB.out.cell (World.block_lt_of_cell? w _ hx107_6)).trans hx107_6; replace p107 := eq_true p107; replace q107 := eq_true q107
                 have p108 : 0 ≤ (x15_3 : Int) := of_decide_eq_true (by first | (with_reducible assumption) | assumption)
                 have q108 : x15_3 < (l1.length : Int) := of_decide_eq_true (by first | (with_reducible assumption) | assumption)
                 obtain ⟨ad108, e108, hx108_0, hx108_1, hx108_2, hx108_3, hx108_4, hx108_5, hx108_6⟩ := at_T28 HR1.out x15_3 p108 q108
                 have hw108_6 := hx108_6; have hw108_5 := hx108_5; have hw108_4 := hx108_4; have hw108_3 := hx108_3; have hw108_2 := hx108_2; have hw108_1 := hx108_1; have hw108_0 := hx108_0
                 obtain rfl : ad103 = ad108 := (by injection e108)
                 replace hx108_0 := (HB.out.cell (World.block_lt_of_cell? w _ hx108_0)).trans hx108_0; replace hx108_1 := (HB.out.cell (World.block_lt_of_cell? w _ hx108_1)).trans hx108_1; replace hx108_2 := (HB.out.cell (World.block_lt_of_cell? w _ hx108_2)).trans hx108_2; replace hx108_3 := (HB.out.cell (World.block_lt_of_cell? w _ hx108_3)).trans hx108_3; replace hx108_4 := (HB.out.cell (World.block_lt_of_cell? w _ hx108_4)).trans hx108_4; replace hx108_5 := (HB.out.cell (World.block_lt_of_cell? w _ hx108_5)).trans hx108_5; replace hx108_6 := (HB.out.cell (World.block_lt_of_cell? w _ hx108_6)).trans hx108_6; replace p108 := eq_true p108; replace q108 := eq_true q108
                 refine start_ (n := 39) (S := fun w' => w'.cell? ⟨gb104, 0, none⟩ = some (.int .i64 ((rd_T28 l1 x12_1).f0)) ∧ w'.cell? ⟨gb104, 1, none⟩ = some (.int .i64 ((rd_T28 l1 x12_1).f1)) ∧ w'.cell? ⟨gb104, 2, none⟩ = some (.int .i64 ((rd_T28 l1 x12_1).f2)) ∧ w'.cell? ⟨gb104, 3, none⟩ = some (.int .i64 ((rd_T28 l1 x12_1).f3)) ∧ w'.cell? ⟨gb104, 4, none⟩ = some (.int .i64 ((rd_T28 l1 x12_1).f4)) ∧ w'.cell? ⟨gb104, 5, none⟩ = some (.int .i64 ((rd_T28 l1 x12_1).f5)) ∧ w'.cell? ⟨gb104, 6, none⟩ = some (.int .u64 ((rd_T28 l1 x12_1).f6)) ∧ w'.cell? (ad103.add ((x15_3).toNat * 7)) = some (.int .i64 ((rd_T28 l1 x15_3).f0)) ∧ w'.cell? ⟨(ad103.add ((x15_3).toNat * 7)).block, (ad103.add ((x15_3).toNat * 7)).off + 1, none⟩ = some (.int .i64 ((rd_T28 l1 x15_3).f1)) ∧ w'.cell? ⟨(ad103.add ((x15_3).toNat * 7)).block, (ad103.add ((x15_3).toNat * 7)).off + 2, none⟩ = some (.int .i64 ((rd_T28 l1 x15_3).f2)) ∧ w'.cell? ⟨(ad103.add ((x15_3).toNat * 7)).block, (ad103.add ((x15_3).toNat * 7)).off + 3, none⟩ = some (.int .i64 ((rd_T28 l1 x15_3).f3)) ∧ w'.cell? ⟨(ad103.add ((x15_3).toNat * 7)).block, (ad103.add ((x15_3).toNat * 7)).off + 4, none⟩ = some (.int .i64 ((rd_T28 l1 x15_3).f4)) ∧ w'.cell? ⟨(ad103.add ((x15_3).toNat * 7)).block, (ad103.add ((x15_3).toNat * 7)).off + 5, none⟩ = some (.int .i64 ((rd_T28 l1 x15_3).f5)) ∧ w'.cell? ⟨(ad103.add ((x15_3).toNat * 7)).block, (ad103.add ((x15_3).toNat * 7)).off + 6, none⟩ = some (.int .u64 ((rd_T28 l1 x15_3).f6)) ∧ w'.cell? (ad103.add ((x15_3).toNat * 7)) = some (.int .i64 ((rd_T28 l1 x15_3).f0)) ∧ w'.cell? ⟨(ad103.add ((x15_3).toNat * 7)).block, (ad103.add ((x15_3).toNat * 7)).off + 1, none⟩ = some (.int .i64 ((rd_T28 l1 x15_3).f1)) ∧ w'.cell? ⟨(ad103.add ((x15_3).toNat * 7)).block, (ad103.add ((x15_3).toNat * 7)).off + 2, none⟩ = some (.int .i64 ((rd_T28 l1 x15_3).f2)) ∧ w'.cell? ⟨(ad103.add ((x15_3).toNat * 7)).block, (ad103.add ((x15_3).toNat * 7)).off + 3, none⟩ = some (.int .i64 ((rd_T28 l1 x15_3).f3)) ∧ w'.cell? ⟨(ad103.add ((x15_3).toNat * 7)).block, (ad103.add ((x15_3).toNat * 7)).off + 4, none⟩ = some (.int .i64 ((rd_T28 l1 x15_3).f4)) ∧ w'.cell? ⟨(ad103.add ((x15_3).toNat * 7)).block, (ad103.add ((x15_3).toNat * 7)).off + 5, none⟩ = some (.int .i64 ((rd_T28 l1 x15_3).f5)) ∧ w'.cell? ⟨(ad103.add ((x15_3).toNat * 7)).block, (ad103.add ((x15_3).toNat * 7)).off + 6, none⟩ = some (.int .u64 ((rd_T28 l1 x15_3).f6)) ∧ w'.cell? (ad103.add ((x15_3).toNat * 7)) = some (.int .i64 ((rd_T28 l1 x15_3).f0)) ∧ w'.cell? ⟨(ad103.add ((x15_3).toNat * 7)).block, (ad103.add ((x15_3).toNat * 7)).off + 1, none⟩ = some (.int .i64 ((rd_T28 l1 x15_3).f1)) ∧ w'.cell? ⟨(ad103.add ((x15_3).toNat * 7)).block, (ad103.add ((x15_3).toNat * 7)).off + 2, none⟩ = some (.int .i64 ((rd_T28 l1 x15_3).f2)) ∧ w'.cell? ⟨(ad103.add ((x15_3).toNat * 7)).block, (ad103.add ((x15_3).toNat * 7)).off + 3, none⟩ = some (.int .i64 ((rd_T28 l1 x15_3).f3)) ∧ w'.cell? ⟨(ad103.add ((x15_3).toNat * 7)).block, (ad103.add ((x15_3).toNat * 7)).off + 4, none⟩ = some (.int .i64 ((rd_T28 l1 x15_3).f4)) ∧ w'.cell? ⟨(ad103.add ((x15_3).toNat * 7)).block, (ad103.add ((x15_3).toNat * 7)).off + 5, none⟩ = some (.int .i64 ((rd_T28 l1 x15_3).f5)) ∧ w'.cell? ⟨(ad103.add ((x15_3).toNat * 7)).block, (ad103.add ((x15_3).toNat * 7)).off + 6, none⟩ = some (.int .u64 ((rd_T28 l1 x15_3).f6))) (ds := []) #[false, false, false, false, false, false, false, false, false, false, false, false, false, false, false, false, false, false, false, false, false, false, false, false, false, false, false, false, false, false, false, false, false, false, false, false, false, false, false] (by kernel_rfl) rfl rfl ⟨cE BK104 0, cE BK104 1, cE BK104 2, cE BK104 3, cE BK104 4, cE BK104 5, cE BK104 6, ((HB.out.cell (World.block_lt_of_cell? w _ hw106_0)).trans hw106_0), ((HB.out.cell (World.block_lt_of_cell? w _ hw106_1)).trans hw106_1), ((HB.out.cell (World.block_lt_of_cell? w _ hw106_2)).trans hw106_2), ((HB.out.cell (World.block_lt_of_cell? w _ hw106_3)).trans hw106_3), ((HB.out.cell (World.block_lt_of_cell? w _ hw106_4)).trans hw106_4), ((HB.out.cell (World.block_lt_of_cell? w _ hw106_5)).trans hw106_5), ((HB.out.cell (World.block_lt_of_cell? w _ hw106_6)).trans hw106_6), ((HB.out.cell (World.block_lt_of_cell? w _ hw107_0)).trans hw107_0), ((HB.out.cell (World.block_lt_of_cell? w _ hw107_1)).trans hw107_1), ((HB.out.cell (World.block_lt_of_cell? w _ hw107_2)).trans hw107_2), ((HB.out.cell (World.block_lt_of_cell? w _ hw107_3)).trans hw107_3), ((HB.out.cell (World.block_lt_of_cell? w _ hw107_4)).trans hw107_4), ((HB.out.cell (World.block_lt_of_cell? w _ hw107_5)).trans hw107_5), ((HB.out.cell (World.block_lt_of_cell? w _ hw107_6)).trans hw107_6), ((HB.out.cell (World.block_lt_of_cell? w _ hw108_0)).trans hw108_0), ((HB.out.cell (World.block_lt_of_cell? w _ hw108_1)).trans hw108_1), ((HB.out.cell (World.block_lt_of_cell? w _ hw108_2)).trans hw108_2), ((HB.out.cell (World.block_lt_of_cell? w _ hw108_3)).trans hw108_3), ((HB.out.cell (World.block_lt_of_cell? w _ hw108_4)).trans hw108_4), ((HB.out.cell (World.block_lt_of_cell? w _ hw108_5)).trans hw108_5), ((HB.out.cell (World.block_lt_of_cell? w _ hw108_6)).trans hw108_6)⟩ (fun hHeld => ?_); refine with_tabW paroleref32_machine.tab13 paroleref32_machine.bits13 (fun HT_ HW_ => ?_)
                 generalize wr.drew = w41 at BK101 BK102 BK104 HB hx106_0 hx106_1 hx106_2 hx106_3 hx106_4 hx106_5 hx106_6 hx107_0 hx107_1 hx107_2 hx107_3 hx107_4 hx107_5 hx107_6 hx108_0 hx108_1 hx108_2 hx108_3 hx108_4 hx108_5 hx108_6 hHeld ⊢
                 refine pX (i := 0) (N := some 48) rfl rfl HT_ ?_
                 refine pX (i := 1) (N := some 49) rfl rfl HT_ ?_
                 refine pX (i := 2) (N := some 50) rfl rfl HT_ ?_
                 refine pX (i := 3) (N := some 51) rfl rfl HT_ ?_
                 refine pX (i := 4) (N := some 52) rfl rfl HT_ ?_
                 refine pX (i := 5) (N := some 53) rfl rfl HT_ ?_
                 refine pX (i := 7) (N := some 55) rfl rfl HT_ ?_
                 refine tX (i := 6) (N := some 54) rfl rfl HT_ HW_ hHeld (Or.inl ⟨by rfl, by rintro w' ⟨s0, s1, s2, s3, s4, s5, s6, s7, s8, s9, s10, s11, s12, s13, s14, s15, s16, s17, s18, s19, s20, s21, s22, s23, s24, s25, s26, s27⟩; go_simp; with_reducible rfl⟩) ?_
                 refine pX (i := 8) (N := some 56) rfl rfl HT_ ?_
                 refine pX (i := 9) (N := some 57) rfl rfl HT_ ?_
                 refine pX (i := 10) (N := some 58) rfl rfl HT_ ?_
                 refine pX (i := 11) (N := some 59) rfl rfl HT_ ?_
                 refine pX (i := 12) (N := some 60) rfl rfl HT_ ?_
                 refine pX (i := 13) (N := some 61) rfl rfl HT_ ?_
                 refine pX (i := 15) (N := some 63) rfl rfl HT_ ?_
                 refine tX (i := 14) (N := some 62) rfl rfl HT_ HW_ hHeld (Or.inl ⟨by rfl, by rintro w' ⟨s0, s1, s2, s3, s4, s5, s6, s7, s8, s9, s10, s11, s12, s13, s14, s15, s16, s17, s18, s19, s20, s21, s22, s23, s24, s25, s26, s27⟩; go_simp; with_reducible rfl⟩) ?_
                 refine pX (i := 16) (N := some 64) rfl rfl HT_ ?_
                 refine pX (i := 17) (N := some 65) rfl rfl HT_ ?_
                 refine pX (i := 18) (N := some 66) rfl rfl HT_ ?_
                 refine pX (i := 19) (N := some 67) rfl rfl HT_ ?_
                 refine pX (i := 20) (N := some 68) rfl rfl HT_ ?_
                 refine pX (i := 21) (N := some 69) rfl rfl HT_ ?_
                 refine pX (i := 22) (N := some 70) rfl rfl HT_ ?_
                 refine pX (i := 24) (N := some 72) rfl rfl HT_ ?_
                 refine tX (i := 23) (N := some 71) rfl rfl HT_ HW_ hHeld (Or.inl ⟨by rfl, by rintro w' ⟨s0, s1, s2, s3, s4, s5, s6, s7, s8, s9, s10, s11, s12, s13, s14, s15, s16, s17, s18, s19, s20, s21, s22, s23, s24, s25, s26, s27⟩; go_simp; with_reducible rfl⟩) ?_
                 refine tX (i := 25) (N := some 73) rfl rfl HT_ HW_ hHeld (Or.inl ⟨by rfl, by rintro w' ⟨s0, s1, s2, s3, s4, s5, s6, s7, s8, s9, s10, s11, s12, s13, s14, s15, s16, s17, s18, s19, s20, s21, s22, s23, s24, s25, s26, s27⟩; go_simp; with_reducible rfl⟩) ?_
                 refine pX (i := 26) (N := some 74) rfl rfl HT_ ?_
                 refine pX (i := 27) (N := some 75) rfl rfl HT_ ?_
                 refine pX (i := 28) (N := some 76) rfl rfl HT_ ?_
                 refine pU (i := 29) (N := some 77) rfl rfl HT_ ?_
                 refine pU (i := 30) (N := some 78) rfl rfl HT_ ?_
                 refine pU (i := 31) (N := some 79) rfl rfl HT_ ?_
                 refine pU (i := 32) (N := some 80) rfl rfl HT_ ?_
                 refine pU (i := 33) (N := some 81) rfl rfl HT_ ?_
                 refine pU (i := 34) (N := some 82) rfl rfl HT_ ?_
                 refine pU (i := 35) (N := some 83) rfl rfl HT_ ?_
                 refine pX (i := 36) (N := some 84) rfl rfl HT_ ?_
                 refine pX (i := 37) (N := some 85) rfl rfl HT_ ?_
                 refine pX (i := 38) (N := some 14) rfl rfl HT_ ?_
                 refine done_ (done_of HT_.out (by kernel_rfl)) ?_
                 try go_wp2
                 go_roundg k3
                 case measure => have := HK1.out; have := HJ10.out; have := HK3.out; omega
                 case rel => exact ⟨(false), (wrap64 (x15_3 + 1)), (by first | rfl | (simp; done) | (simp [*]; done)), (by first | rfl | (simp; done) | (simp [*]; done)), H', ⟨by have := HK1.out; have := HJ10.out; have := HK3.out; omega⟩, ⟨by exact bD BK101⟩, ⟨by exact bD BK102⟩, ⟨by exact bD BK104⟩, ⟨sD HB⟩⟩
               ·rw [if_neg c36] at H
                have c36b0 : (((rd_T28 l1 x15_3).f2) == a2) = false := beq_eq_false_iff_ne.mpr c36
                have c36b1 : (((rd_T28 l1 x15_3).f2) != a2) = true := bne_iff_ne.mpr c36
                have H' := aM H; clear H
                try go_wp2
                replace BK101 := aM (blk_drew BK101.out); replace BK102 := aM (blk_drew BK102.out); replace BK104 := aM (blk_drew BK104.out); replace HB := aM (below_drew1 HB.out)
                have p106 : 0 ≤ (x15_3 : Int) := of_decide_eq_true (by first | (with_reducible assumption) | assumption)
                have q106 : x15_3 < (l1.length : Int) := of_decide_eq_true (by first | (with_reducible assumption) | assumption)
                obtain ⟨ad106, e106, hx106_0, hx106_1, hx106_2, hx106_3, hx106_4, hx106_5, hx106_6⟩ := at_T28 HR1.out x15_3 p106 q106
                have hw106_6 := hx106_6; have hw106_5 := hx106_5; have hw106_4 := hx106_4; have hw106_3 := hx106_3; have hw106_2 := hx106_2; have hw106_1 := hx106_1; have hw106_0 := hx106_0
                obtain rfl : ad103 = ad106 := (by injection e106)
                replace hx106_0 := (HB.out.cell (World.block_lt_of_cell? w _ hx106_0)).trans hx106_0; replace hx106_1 := (HB.out.cell (World.block_lt_of_cell? w _ hx106_1)).trans hx106_1; replace hx106_2 := (HB.out.cell (World.block_lt_of_cell? w _ hx106_2)).trans hx106_2; replace hx106_3 := (HB.out.cell (World.block_lt_of_cell? w _ hx106_3)).trans hx106_3; replace hx106_4 := (HB.out.cell (World.block_lt_of_cell? w _ hx106_4)).trans hx106_4; replace hx106_5 := (HB.out.cell (World.block_lt_of_cell? w _ hx106_5)).trans hx106_5; replace hx106_6 := (HB.out.cell (World.block_lt_of_cell? w _ hx106_6)).trans hx106_6; replace p106 := eq_true p106; replace q106 := eq_true q106
                have p107 : 0 ≤ (x15_3 : Int) := of_decide_eq_true (by first | (with_reducible assumption) | assumption)
                have q107 : x15_3 < (l1.length : Int) := of_decide_eq_true (by first | (with_reducible assumption) | assumption)
                obtain ⟨ad107, e107, hx107_0, hx107_1, hx107_2, hx107_3, hx107_4, hx107_5, hx107_6⟩ := at_T28 HR1.out x15_3 p107 q107
                have hw107_6 := hx107_6; have hw107_5 := hx107_5; have hw107_4 := hx107_4; have hw107_3 := hx107_3; have hw107_2 := hx107_2; have hw107_1 := hx107_1; have hw107_0 := hx107_0
                obtain rfl : ad103 = ad107 := (by injection e107)
                replace hx107_0 := (HB.out.cell (World.block_lt_of_cell? w _ hx107_0)).trans hx107_0; replace hx107_1 := (HB.out.cell (World.block_lt_of_cell? w _ hx107_1)).trans hx107_1; replace hx107_2 := (HB.out.cell (World.block_lt_of_cell? w _ hx107_2)).trans hx107_2; replace hx107_3 := (HB.out.cell (World.block_lt_of_cell? w _ hx107_3)).trans hx107_3; replace hx107_4 := (HB.out.cell (World.block_lt_of_cell? w _ hx107_4)).trans hx107_4; replace hx107_5 := (HB.out.cell (World.block_lt_of_cell? w _ hx107_5)).trans hx107_5; replace hx107_6 := (HB.out.cell (World.block_lt_of_cell? w _ hx107_6)).trans hx107_6; replace p107 := eq_true p107; replace q107 := eq_true q107
                refine start_ (n := 39) (S := fun w' => w'.cell? (ad103.add ((x15_3).toNat * 7)) = some (.int .i64 ((rd_T28 l1 x15_3).f0)) ∧ w'.cell? ⟨(ad103.add ((x15_3).toNat * 7)).block, (ad103.add ((x15_3).toNat * 7)).off + 1, none⟩ = some (.int .i64 ((rd_T28 l1 x15_3).f1)) ∧ w'.cell? ⟨(ad103.add ((x15_3).toNat * 7)).block, (ad103.add ((x15_3).toNat * 7)).off + 2, none⟩ = some (.int .i64 ((rd_T28 l1 x15_3).f2)) ∧ w'.cell? ⟨(ad103.add ((x15_3).toNat * 7)).block, (ad103.add ((x15_3).toNat * 7)).off + 3, none⟩ = some (.int .i64 ((rd_T28 l1 x15_3).f3)) ∧ w'.cell? ⟨(ad103.add ((x15_3).toNat * 7)).block, (ad103.add ((x15_3).toNat * 7)).off + 4, none⟩ = some (.int .i64 ((rd_T28 l1 x15_3).f4)) ∧ w'.cell? ⟨(ad103.add ((x15_3).toNat * 7)).block, (ad103.add ((x15_3).toNat * 7)).off + 5, none⟩ = some (.int .i64 ((rd_T28 l1 x15_3).f5)) ∧ w'.cell? ⟨(ad103.add ((x15_3).toNat * 7)).block, (ad103.add ((x15_3).toNat * 7)).off + 6, none⟩ = some (.int .u64 ((rd_T28 l1 x15_3).f6)) ∧ w'.cell? (ad103.add ((x15_3).toNat * 7)) = some (.int .i64 ((rd_T28 l1 x15_3).f0)) ∧ w'.cell? ⟨(ad103.add ((x15_3).toNat * 7)).block, (ad103.add ((x15_3).toNat * 7)).off + 1, none⟩ = some (.int .i64 ((rd_T28 l1 x15_3).f1)) ∧ w'.cell? ⟨(ad103.add ((x15_3).toNat * 7)).block, (ad103.add ((x15_3).toNat * 7)).off + 2, none⟩ = some (.int .i64 ((rd_T28 l1 x15_3).f2)) ∧ w'.cell? ⟨(ad103.add ((x15_3).toNat * 7)).block, (ad103.add ((x15_3).toNat * 7)).off + 3, none⟩ = some (.int .i64 ((rd_T28 l1 x15_3).f3)) ∧ w'.cell? ⟨(ad103.add ((x15_3).toNat * 7)).block, (ad103.add ((x15_3).toNat * 7)).off + 4, none⟩ = some (.int .i64 ((rd_T28 l1 x15_3).f4)) ∧ w'.cell? ⟨(ad103.add ((x15_3).toNat * 7)).block, (ad103.add ((x15_3).toNat * 7)).off + 5, none⟩ = some (.int .i64 ((rd_T28 l1 x15_3).f5)) ∧ w'.cell? ⟨(ad103.add ((x15_3).toNat * 7)).block, (ad103.add ((x15_3).toNat * 7)).off + 6, none⟩ = some (.int .u64 ((rd_T28 l1 x15_3).f6))) (ds := []) #[false, false, false, false, false, false, false, false, false, false, false, false, false, false, false, false, false, false, false, false, false, false, false, false, false, false, false, false, false, false, false, false, false, false, false, false, false, false, false] (by kernel_rfl) rfl rfl ⟨((HB.out.cell (World.block_lt_of_cell? w _ hw106_0)).trans hw106_0), ((HB.out.cell (World.block_lt_of_cell? w _ hw106_1)).trans hw106_1), ((HB.out.cell (World.block_lt_of_cell? w _ hw106_2)).trans hw106_2), ((HB.out.cell (World.block_lt_of_cell? w _ hw106_3)).trans hw106_3), ((HB.out.cell (World.block_lt_of_cell? w _ hw106_4)).trans hw106_4), ((HB.out.cell (World.block_lt_of_cell? w _ hw106_5)).trans hw106_5), ((HB.out.cell (World.block_lt_of_cell? w _ hw106_6)).trans hw106_6), ((HB.out.cell (World.block_lt_of_cell? w _ hw107_0)).trans hw107_0), ((HB.out.cell (World.block_lt_of_cell? w _ hw107_1)).trans hw107_1), ((HB.out.cell (World.block_lt_of_cell? w _ hw107_2)).trans hw107_2), ((HB.out.cell (World.block_lt_of_cell? w _ hw107_3)).trans hw107_3), ((HB.out.cell (World.block_lt_of_cell? w _ hw107_4)).trans hw107_4), ((HB.out.cell (World.block_lt_of_cell? w _ hw107_5)).trans hw107_5), ((HB.out.cell (World.block_lt_of_cell? w _ hw107_6)).trans hw107_6)⟩ (fun hHeld => ?_); refine with_tabW paroleref32_machine.tab13 paroleref32_machine.bits13 (fun HT_ HW_ => ?_)
                generalize wr.drew = w42 at BK101 BK102 BK104 HB hx106_0 hx106_1 hx106_2 hx106_3 hx106_4 hx106_5 hx106_6 hx107_0 hx107_1 hx107_2 hx107_3 hx107_4 hx107_5 hx107_6 hHeld ⊢
                refine pX (i := 0) (N := some 48) rfl rfl HT_ ?_
                refine pX (i := 1) (N := some 49) rfl rfl HT_ ?_
                refine pX (i := 2) (N := some 50) rfl rfl HT_ ?_
                refine pX (i := 3) (N := some 51) rfl rfl HT_ ?_
                refine pX (i := 4) (N := some 52) rfl rfl HT_ ?_
                refine pX (i := 5) (N := some 53) rfl rfl HT_ ?_
                refine pX (i := 7) (N := some 55) rfl rfl HT_ ?_
                refine tX (i := 6) (N := some 54) rfl rfl HT_ HW_ hHeld (Or.inl ⟨by rfl, by rintro w' ⟨s0, s1, s2, s3, s4, s5, s6, s7, s8, s9, s10, s11, s12, s13⟩; go_simp; with_reducible rfl⟩) ?_
                refine pX (i := 8) (N := some 56) rfl rfl HT_ ?_
                refine pX (i := 9) (N := some 57) rfl rfl HT_ ?_
                refine pX (i := 10) (N := some 58) rfl rfl HT_ ?_
                refine pX (i := 11) (N := some 59) rfl rfl HT_ ?_
                refine pX (i := 12) (N := some 60) rfl rfl HT_ ?_
                refine pX (i := 13) (N := some 61) rfl rfl HT_ ?_
                refine pX (i := 15) (N := some 63) rfl rfl HT_ ?_
                refine tX (i := 14) (N := some 62) rfl rfl HT_ HW_ hHeld (Or.inl ⟨by rfl, by rintro w' ⟨s0, s1, s2, s3, s4, s5, s6, s7, s8, s9, s10, s11, s12, s13⟩; go_simp; with_reducible rfl⟩) ?_
                refine pX (i := 16) (N := some 64) rfl rfl HT_ ?_
                refine pX (i := 17) (N := some 65) rfl rfl HT_ ?_
                refine pX (i := 18) (N := some 66) rfl rfl HT_ ?_
                refine pU (i := 19) (N := some 67) rfl rfl HT_ ?_
                refine pU (i := 20) (N := some 68) rfl rfl HT_ ?_
                refine pU (i := 21) (N := some 69) rfl rfl HT_ ?_
                refine pU (i := 22) (N := some 70) rfl rfl HT_ ?_
                refine pU (i := 23) (N := some 71) rfl rfl HT_ ?_
                refine pU (i := 24) (N := some 72) rfl rfl HT_ ?_
                refine pU (i := 25) (N := some 73) rfl rfl HT_ ?_
                refine pU (i := 26) (N := some 74) rfl rfl HT_ ?_
                refine pX (i := 27) (N := some 75) rfl rfl HT_ ?_
                refine pX (i := 28) (N := some 76) rfl rfl HT_ ?_
                refine pU (i := 29) (N := some 77) rfl rfl HT_ ?_
                refine pU (i := 30) (N := some 78) rfl rfl HT_ ?_
                refine pU (i := 31) (N := some 79) rfl rfl HT_ ?_
                refine pU (i := 32) (N := some 80) rfl rfl HT_ ?_
                refine pU (i := 33) (N := some 81) rfl rfl HT_ ?_
                refine pU (i := 34) (N := some 82) rfl rfl HT_ ?_
                refine pU (i := 35) (N := some 83) rfl rfl HT_ ?_
                refine pX (i := 36) (N := some 84) rfl rfl HT_ ?_
                refine pX (i := 37) (N := some 85) rfl rfl HT_ ?_
                refine pX (i := 38) (N := some 14) rfl rfl HT_ ?_
                refine done_ (done_of HT_.out (by kernel_rfl)) ?_
                try go_wp2
                go_roundg k3
                case measure => have := HK1.out; have := HJ10.out; have := HK3.out; omega
                case rel => exact ⟨(false), (wrap64 (x15_3 + 1)), (by first | rfl | (simp; done) | (simp [*]; done)), (by first | rfl | (simp; done) | (simp [*]; done)), H', ⟨by have := HK1.out; have := HJ10.out; have := HK3.out; omega⟩, ⟨by exact bD BK101⟩, ⟨by exact bD BK102⟩, ⟨by exact bD BK104⟩, ⟨sD HB⟩⟩
              ·rw [if_neg c35] at H
               have c35b0 : (((rd_T28 l1 x15_3).f0) == a3) = false := beq_eq_false_iff_ne.mpr c35
               have c35b1 : (((rd_T28 l1 x15_3).f0) != a3) = true := bne_iff_ne.mpr c35
               have H' := aM H; clear H
               try go_wp2
               replace BK101 := aM (blk_drew BK101.out); replace BK102 := aM (blk_drew BK102.out); replace BK104 := aM (blk_drew BK104.out); replace HB := aM (below_drew1 HB.out)
               have p106 : 0 ≤ (x15_3 : Int) := of_decide_eq_true (by first | (with_reducible assumption) | assumption)
               have q106 : x15_3 < (l1.length : Int) := of_decide_eq_true (by first | (with_reducible assumption) | assumption)
               obtain ⟨ad106, e106, hx106_0, hx106_1, hx106_2, hx106_3, hx106_4, hx106_5, hx106_6⟩ := at_T28 HR1.out x15_3 p106 q106
               have hw106_6 := hx106_6; have hw106_5 := hx106_5; have hw106_4 := hx106_4; have hw106_3 := hx106_3; have hw106_2 := hx106_2; have hw106_1 := hx106_1; have hw106_0 := hx106_0
               obtain rfl : ad103 = ad106 := (by injection e106)
               replace hx106_0 := (HB.out.cell (World.block_lt_of_cell? w _ hx106_0)).trans hx106_0; replace hx106_1 := (HB.out.cell (World.block_lt_of_cell? w _ hx106_1)).trans hx106_1; replace hx106_2 := (HB.out.cell (World.block_lt_of_cell? w _ hx106_2)).trans hx106_2; replace hx106_3 := (HB.out.cell (World.block_lt_of_cell? w _ hx106_3)).trans hx106_3; replace hx106_4 := (HB.out.cell (World.block_lt_of_cell? w _ hx106_4)).trans hx106_4; replace hx106_5 := (HB.out.cell (World.block_lt_of_cell? w _ hx106_5)).trans hx106_5; replace hx106_6 := (HB.out.cell (World.block_lt_of_cell? w _ hx106_6)).trans hx106_6; replace p106 := eq_true p106; replace q106 := eq_true q106
               refine start_ (n := 39) (S := fun w' => w'.cell? (ad103.add ((x15_3).toNat * 7)) = some (.int .i64 ((rd_T28 l1 x15_3).f0)) ∧ w'.cell? ⟨(ad103.add ((x15_3).toNat * 7)).block, (ad103.add ((x15_3).toNat * 7)).off + 1, none⟩ = some (.int .i64 ((rd_T28 l1 x15_3).f1)) ∧ w'.cell? ⟨(ad103.add ((x15_3).toNat * 7)).block, (ad103.add ((x15_3).toNat * 7)).off + 2, none⟩ = some (.int .i64 ((rd_T28 l1 x15_3).f2)) ∧ w'.cell? ⟨(ad103.add ((x15_3).toNat * 7)).block, (ad103.add ((x15_3).toNat * 7)).off + 3, none⟩ = some (.int .i64 ((rd_T28 l1 x15_3).f3)) ∧ w'.cell? ⟨(ad103.add ((x15_3).toNat * 7)).block, (ad103.add ((x15_3).toNat * 7)).off + 4, none⟩ = some (.int .i64 ((rd_T28 l1 x15_3).f4)) ∧ w'.cell? ⟨(ad103.add ((x15_3).toNat * 7)).block, (ad103.add ((x15_3).toNat * 7)).off + 5, none⟩ = some (.int .i64 ((rd_T28 l1 x15_3).f5)) ∧ w'.cell? ⟨(ad103.add ((x15_3).toNat * 7)).block, (ad103.add ((x15_3).toNat * 7)).off + 6, none⟩ = some (.int .u64 ((rd_T28 l1 x15_3).f6))) (ds := []) #[false, false, false, false, false, false, false, false, false, false, false, false, false, false, false, false, false, false, false, false, false, false, false, false, false, false, false, false, false, false, false, false, false, false, false, false, false, false, false] (by kernel_rfl) rfl rfl ⟨((HB.out.cell (World.block_lt_of_cell? w _ hw106_0)).trans hw106_0), ((HB.out.cell (World.block_lt_of_cell? w _ hw106_1)).trans hw106_1), ((HB.out.cell (World.block_lt_of_cell? w _ hw106_2)).trans hw106_2), ((HB.out.cell (World.block_lt_of_cell? w _ hw106_3)).trans hw106_3), ((HB.out.cell (World.block_lt_of_cell? w _ hw106_4)).trans hw106_4), ((HB.out.cell (World.block_lt_of_cell? w _ hw106_5)).trans hw106_5), ((HB.out.cell (World.block_lt_of_cell? w _ hw106_6)).trans hw106_6)⟩ (fun hHeld => ?_); refine with_tabW paroleref32_machine.tab13 paroleref32_machine.bits13 (fun HT_ HW_ => ?_)
               generalize wr.drew = w43 at BK101 BK102 BK104 HB hx106_0 hx106_1 hx106_2 hx106_3 hx106_4 hx106_5 hx106_6 hHeld ⊢
               refine pX (i := 0) (N := some 48) rfl rfl HT_ ?_
               refine pX (i := 1) (N := some 49) rfl rfl HT_ ?_
               refine pX (i := 2) (N := some 50) rfl rfl HT_ ?_
               refine pX (i := 3) (N := some 51) rfl rfl HT_ ?_
               refine pX (i := 4) (N := some 52) rfl rfl HT_ ?_
               refine pX (i := 5) (N := some 53) rfl rfl HT_ ?_
               refine pX (i := 7) (N := some 55) rfl rfl HT_ ?_
               refine tX (i := 6) (N := some 54) rfl rfl HT_ HW_ hHeld (Or.inl ⟨by rfl, by rintro w' ⟨s0, s1, s2, s3, s4, s5, s6⟩; go_simp; with_reducible rfl⟩) ?_
               refine pX (i := 8) (N := some 56) rfl rfl HT_ ?_
               refine pX (i := 9) (N := some 57) rfl rfl HT_ ?_
               refine pU (i := 10) (N := some 58) rfl rfl HT_ ?_
               refine pU (i := 11) (N := some 59) rfl rfl HT_ ?_
               refine pU (i := 12) (N := some 60) rfl rfl HT_ ?_
               refine pU (i := 13) (N := some 61) rfl rfl HT_ ?_
               refine pU (i := 14) (N := some 62) rfl rfl HT_ ?_
               refine pU (i := 15) (N := some 63) rfl rfl HT_ ?_
               refine pU (i := 16) (N := some 64) rfl rfl HT_ ?_
               refine pX (i := 17) (N := some 65) rfl rfl HT_ ?_
               refine pX (i := 18) (N := some 66) rfl rfl HT_ ?_
               refine pU (i := 19) (N := some 67) rfl rfl HT_ ?_
               refine pU (i := 20) (N := some 68) rfl rfl HT_ ?_
               refine pU (i := 21) (N := some 69) rfl rfl HT_ ?_
               refine pU (i := 22) (N := some 70) rfl rfl HT_ ?_
               refine pU (i := 23) (N := some 71) rfl rfl HT_ ?_
               refine pU (i := 24) (N := some 72) rfl rfl HT_ ?_
               refine pU (i := 25) (N := some 73) rfl rfl HT_ ?_
               refine pU (i := 26) (N := some 74) rfl rfl HT_ ?_
               refine pX (i := 27) (N := some 75) rfl rfl HT_ ?_
               refine pX (i := 28) (N := some 76) rfl rfl HT_ ?_
               refine pU (i := 29) (N := some 77) rfl rfl HT_ ?_
               refine pU (i := 30) (N := some 78) rfl rfl HT_ ?_
               refine pU (i := 31) (N := some 79) rfl rfl HT_ ?_
               refine pU (i := 32) (N := some 80) rfl rfl HT_ ?_
               refine pU (i := 33) (N := some 81) rfl rfl HT_ ?_
               refine pU (i := 34) (N := some 82) rfl rfl HT_ ?_
               refine pU (i := 35) (N := some 83) rfl rfl HT_ ?_
               refine pX (i := 36) (N := some 84) rfl rfl HT_ ?_
               refine pX (i := 37) (N := some 85) rfl rfl HT_ ?_
               refine pX (i := 38) (N := some 14) rfl rfl HT_ ?_
               refine done_ (done_of HT_.out (by kernel_rfl)) ?_
               try go_wp2
               go_roundg k3
               case measure => have := HK1.out; have := HJ10.out; have := HK3.out; omega
               case rel => exact ⟨(false), (wrap64 (x15_3 + 1)), (by first | rfl | (simp; done) | (simp [*]; done)), (by first | rfl | (simp; done) | (simp [*]; done)), H', ⟨by have := HK1.out; have := HJ10.out; have := HK3.out; omega⟩, ⟨by exact bD BK101⟩, ⟨by exact bD BK102⟩, ⟨by exact bD BK104⟩, ⟨sD HB⟩⟩
             ·rw [if_neg c34] at H
              exact absurd H (by simp)
            ·rw [if_neg c33] at H
             exact absurd H (by simp)
          ·rw [if_neg c30] at H
           have c30b0 : decide (x15_3 < x12_1) = false := decide_eq_false c30
           clear c30
           by_cases c44 : x14_3 = true
           ·subst c44
            have H1 : (paroleref32_machine.l0 k3 l0 l1 a2 a3 (mx x10_1 ((rd_T28 l1 x12_1).f1)) x11_1 (wrap64 (x12_1 + 1)) 0 1 (mx x103002_1 ((rd_T28 l1 x12_1).f3)) (mx x103003_1 ((rd_T28 l1 x12_1).f4)) (mx x103004_1 ((rd_T28 l1 x12_1).f5)) 0) = some (r1, r2, r3, r4, r5, r6) := by rw [if_pos rfl] at H; exact H
            clear H; have H := H1; clear H1
            obtain ⟨ji45, hji45⟩ : ∃ j_ : Int, (mx x10_1 ((rd_T28 l1 x12_1).f1)) = j_ := ⟨_, rfl⟩
            replace H : (paroleref32_machine.l0 k3 l0 l1 a2 a3 ji45 x11_1 (wrap64 (x12_1 + 1)) 0 1 (mx x103002_1 ((rd_T28 l1 x12_1).f3)) (mx x103003_1 ((rd_T28 l1 x12_1).f4)) (mx x103004_1 ((rd_T28 l1 x12_1).f5)) 0) = some (r1, r2, r3, r4, r5, r6) := by first | (rw [hji45] at H; exact H) | (simp only [hji45] at H ⊢; exact H)
            have hji45_ : (if x10_1 < ((rd_T28 l1 x12_1).f1) then ((rd_T28 l1 x12_1).f1) else x10_1) = ji45 := hji45
            obtain ⟨ji46, hji46⟩ : ∃ j_ : Int, (mx x103002_1 ((rd_T28 l1 x12_1).f3)) = j_ := ⟨_, rfl⟩
            replace H : (paroleref32_machine.l0 k3 l0 l1 a2 a3 ji45 x11_1 (wrap64 (x12_1 + 1)) 0 1 ji46 (mx x103003_1 ((rd_T28 l1 x12_1).f4)) (mx x103004_1 ((rd_T28 l1 x12_1).f5)) 0) = some (r1, r2, r3, r4, r5, r6) := by first | (rw [hji46] at H; exact H) | (simp only [hji46] at H ⊢; exact H)
            have hji46_ : (if x103002_1 < ((rd_T28 l1 x12_1).f3) then ((rd_T28 l1 x12_1).f3) else x103002_1) = ji46 := hji46
            obtain ⟨ji47, hji47⟩ : ∃ j_ : Int, (mx x103003_1 ((rd_T28 l1 x12_1).f4)) = j_ := ⟨_, rfl⟩
            replace H : (paroleref32_machine.l0 k3 l0 l1 a2 a3 ji45 x11_1 (wrap64 (x12_1 + 1)) 0 1 ji46 ji47 (mx x103004_1 ((rd_T28 l1 x12_1).f5)) 0) = some (r1, r2, r3, r4, r5, r6) := by first | (rw [hji47] at H; exact H) | (simp only [hji47] at H ⊢; exact H)
            have hji47_ : (if x103003_1 < ((rd_T28 l1 x12_1).f4) then ((rd_T28 l1 x12_1).f4) else x103003_1) = ji47 := hji47
            obtain ⟨ji48, hji48⟩ : ∃ j_ : Int, (mx x103004_1 ((rd_T28 l1 x12_1).f5)) = j_ := ⟨_, rfl⟩
            replace H : (paroleref32_machine.l0 k3 l0 l1 a2 a3 ji45 x11_1 (wrap64 (x12_1 + 1)) 0 1 ji46 ji47 ji48 0) = some (r1, r2, r3, r4, r5, r6) := by first | (rw [hji48] at H; exact H) | (simp only [hji48] at H ⊢; exact H)
            have hji48_ : (if x103004_1 < ((rd_T28 l1 x12_1).f5) then ((rd_T28 l1 x12_1).f5) else x103004_1) = ji48 := hji48
            have H' := aM H; clear H; have hnb49 := NB101_104.out.symm; have hnc49 := NB101_104.out; have hnb50 := NB102_104.out.symm; have hnc50 := NB102_104.out; obtain ⟨hcz51_0, hcz51_1, hcz51_2, hcz51_3, hcz51_4, hcz51_5, hcz51_6, hfz51_0, hfz51_1, hfz51_2, hfz51_3, hfz51_4, hfz51_5, hfz51_6⟩ := cZ7 BK104; have hnb52 := NB101_102.out.symm; have hnc52 := NB101_102.out; obtain ⟨hcz53_0, hcz53_1, hcz53_2, hcz53_3, hcz53_4, hcz53_5, hfz53_0, hfz53_1, hfz53_2, hfz53_3, hfz53_4, hfz53_5⟩ := cZ6 BK102
            go_wp2
            go_roundg k3
            case measure => have := HK1.out; have := HJ10.out; have := HK3.out; omega
            case rel => exact ⟨(ji45), (x11_1), (wrap64 (x12_1 + 1)), (1), (ji46), (ji47), (ji48), (by first | rfl | (simp; done) | (simp only [← hji45] <;> (first | rfl | simp)) | (simp [*]; done)), (by first | rfl | (simp; done) | (simp [*]; done)), (by first | rfl | (simp; done) | (simp [*]; done)), H', ⟨by have := HK1.out; have := HJ10.out; have := HK3.out; omega⟩, ⟨bF BK101⟩, ⟨by refine bM ?_; refine blk_put (cs := #[.int .i64 0, .int .i64 1, .int .i64 ji46, .int .i64 ji47, .int .i64 x103004_1, .int .i64 0]) ?_ 4 _ rfl; refine bM ?_; refine blk_put (cs := #[.int .i64 0, .int .i64 1, .int .i64 ji46, .int .i64 x103003_1, .int .i64 x103004_1, .int .i64 0]) ?_ 3 _ rfl; refine bM ?_; refine blk_put (cs := #[.int .i64 0, .int .i64 1, .int .i64 x103002_1, .int .i64 x103003_1, .int .i64 x103004_1, .int .i64 0]) ?_ 2 _ rfl; refine bM ?_; refine blk_put (cs := #[.int .i64 0, .int .i64 x103001_1, .int .i64 x103002_1, .int .i64 x103003_1, .int .i64 x103004_1, .int .i64 0]) ?_ 1 _ rfl; exact bD BK102⟩, ⟨sD HB⟩⟩
           ·replace c44 := Bool.eq_false_iff.mpr c44
            subst c44
            have H1 : (paroleref32_machine.l0 k3 l0 l1 a2 a3 (mx x10_1 ((rd_T28 l1 x12_1).f1)) (wrap64 (x11_1 + 1)) (wrap64 (x12_1 + 1)) 0 1 (mx x103002_1 ((rd_T28 l1 x12_1).f3)) (mx x103003_1 ((rd_T28 l1 x12_1).f4)) (mx x103004_1 ((rd_T28 l1 x12_1).f5)) 0) = some (r1, r2, r3, r4, r5, r6) := by rw [if_neg (show ¬ (false = true) by decide)] at H; exact H
            clear H; have H := H1; clear H1
            obtain ⟨ji54, hji54⟩ : ∃ j_ : Int, (mx x10_1 ((rd_T28 l1 x12_1).f1)) = j_ := ⟨_, rfl⟩
            replace H : (paroleref32_machine.l0 k3 l0 l1 a2 a3 ji54 (wrap64 (x11_1 + 1)) (wrap64 (x12_1 + 1)) 0 1 (mx x103002_1 ((rd_T28 l1 x12_1).f3)) (mx x103003_1 ((rd_T28 l1 x12_1).f4)) (mx x103004_1 ((rd_T28 l1 x12_1).f5)) 0) = some (r1, r2, r3, r4, r5, r6) := by first | (rw [hji54] at H; exact H) | (simp only [hji54] at H ⊢; exact H)
            have hji54_ : (if x10_1 < ((rd_T28 l1 x12_1).f1) then ((rd_T28 l1 x12_1).f1) else x10_1) = ji54 := hji54
            obtain ⟨ji55, hji55⟩ : ∃ j_ : Int, (mx x103002_1 ((rd_T28 l1 x12_1).f3)) = j_ := ⟨_, rfl⟩
            replace H : (paroleref32_machine.l0 k3 l0 l1 a2 a3 ji54 (wrap64 (x11_1 + 1)) (wrap64 (x12_1 + 1)) 0 1 ji55 (mx x103003_1 ((rd_T28 l1 x12_1).f4)) (mx x103004_1 ((rd_T28 l1 x12_1).f5)) 0) = some (r1, r2, r3, r4, r5, r6) := by first | (rw [hji55] at H; exact H) | (simp only [hji55] at H ⊢; exact H)
            have hji55_ : (if x103002_1 < ((rd_T28 l1 x12_1).f3) then ((rd_T28 l1 x12_1).f3) else x103002_1) = ji55 := hji55
            obtain ⟨ji56, hji56⟩ : ∃ j_ : Int, (mx x103003_1 ((rd_T28 l1 x12_1).f4)) = j_ := ⟨_, rfl⟩
            replace H : (paroleref32_machine.l0 k3 l0 l1 a2 a3 ji54 (wrap64 (x11_1 + 1)) (wrap64 (x12_1 + 1)) 0 1 ji55 ji56 (mx x103004_1 ((rd_T28 l1 x12_1).f5)) 0) = some (r1, r2, r3, r4, r5, r6) := by first | (rw [hji56] at H; exact H) | (simp only [hji56] at H ⊢; exact H)
            have hji56_ : (if x103003_1 < ((rd_T28 l1 x12_1).f4) then ((rd_T28 l1 x12_1).f4) else x103003_1) = ji56 := hji56
            obtain ⟨ji57, hji57⟩ : ∃ j_ : Int, (mx x103004_1 ((rd_T28 l1 x12_1).f5)) = j_ := ⟨_, rfl⟩
            replace H : (paroleref32_machine.l0 k3 l0 l1 a2 a3 ji54 (wrap64 (x11_1 + 1)) (wrap64 (x12_1 + 1)) 0 1 ji55 ji56 ji57 0) = some (r1, r2, r3, r4, r5, r6) := by first | (rw [hji57] at H; exact H) | (simp only [hji57] at H ⊢; exact H)
            have hji57_ : (if x103004_1 < ((rd_T28 l1 x12_1).f5) then ((rd_T28 l1 x12_1).f5) else x103004_1) = ji57 := hji57
            have H' := aM H; clear H; have hnb58 := NB101_104.out.symm; have hnc58 := NB101_104.out; have hnb59 := NB102_104.out.symm; have hnc59 := NB102_104.out; obtain ⟨hcz60_0, hcz60_1, hcz60_2, hcz60_3, hcz60_4, hcz60_5, hcz60_6, hfz60_0, hfz60_1, hfz60_2, hfz60_3, hfz60_4, hfz60_5, hfz60_6⟩ := cZ7 BK104; have hnb61 := NB101_102.out.symm; have hnc61 := NB101_102.out; obtain ⟨hcz62_0, hcz62_1, hcz62_2, hcz62_3, hcz62_4, hcz62_5, hfz62_0, hfz62_1, hfz62_2, hfz62_3, hfz62_4, hfz62_5⟩ := cZ6 BK102
            go_wp2
            go_roundg k3
            case measure => have := HK1.out; have := HJ10.out; have := HK3.out; omega
            case rel => exact ⟨(ji54), (wrap64 (x11_1 + 1)), (wrap64 (x12_1 + 1)), (1), (ji55), (ji56), (ji57), (by first | rfl | (simp; done) | (simp only [← hji54] <;> (first | rfl | simp)) | (simp [*]; done)), (by first | rfl | (simp; done) | (simp [*]; done)), (by first | rfl | (simp; done) | (simp [*]; done)), H', ⟨by have := HK1.out; have := HJ10.out; have := HK3.out; omega⟩, ⟨bF BK101⟩, ⟨by refine bM ?_; refine blk_put (cs := #[.int .i64 0, .int .i64 1, .int .i64 ji55, .int .i64 ji56, .int .i64 x103004_1, .int .i64 0]) ?_ 4 _ rfl; refine bM ?_; refine blk_put (cs := #[.int .i64 0, .int .i64 1, .int .i64 ji55, .int .i64 x103003_1, .int .i64 x103004_1, .int .i64 0]) ?_ 3 _ rfl; refine bM ?_; refine blk_put (cs := #[.int .i64 0, .int .i64 1, .int .i64 x103002_1, .int .i64 x103003_1, .int .i64 x103004_1, .int .i64 0]) ?_ 2 _ rfl; refine bM ?_; refine blk_put (cs := #[.int .i64 0, .int .i64 x103001_1, .int .i64 x103002_1, .int .i64 x103003_1, .int .i64 x103004_1, .int .i64 0]) ?_ 1 _ rfl; exact bD BK102⟩, ⟨sD HB⟩⟩
    ·rw [if_neg c10] at H
     exact absurd H (by simp)
   ·rw [if_neg c9] at H
    have c9b0 : decide (x12_1 < (l1.length : Int)) = false := decide_eq_false c9
    clear c9
    simp only [Option.some.injEq, Prod.mk.injEq] at H
    obtain ⟨rfl, rfl, rfl, rfl, rfl, rfl⟩ := H
    have hnb63 := NB101_102.out.symm; have hnc63 := NB101_102.out; obtain ⟨hcz64_0, hcz64_1, hcz64_2, hcz64_3, hcz64_4, hcz64_5, hfz64_0, hfz64_1, hfz64_2, hfz64_3, hfz64_4, hfz64_5⟩ := cZ6 BK102; obtain ⟨hcz65_0, hcz65_1, hcz65_2, hcz65_3, hcz65_4, hcz65_5, hfz65_0, hfz65_1, hfz65_2, hfz65_3, hfz65_4, hfz65_5⟩ := cZ6 BK101
    go_wp2
    refine bodyPost_ret (results_cell_row rfl _ _ gb101 40 #[.int .i64 0, .int .i64 x103001_1, .int .i64 x103002_1, .int .i64 x103003_1, .int .i64 x103004_1, .int .i64 (wrap64 (x10_1 - x11_1))] (0, 0) _ rfl (by refine bM ?_; refine blk_put (cs := #[.int .i64 0, .int .i64 x103001_1, .int .i64 x103002_1, .int .i64 x103003_1, .int .i64 x103004_1, .int .i64 0]) ?_ 5 _ rfl; refine bM ?_; refine blk_put (cs := #[.int .i64 0, .int .i64 x103001_1, .int .i64 x103002_1, .int .i64 x103003_1, .int .i64 0, .int .i64 0]) ?_ 4 _ rfl; refine bM ?_; refine blk_put (cs := #[.int .i64 0, .int .i64 x103001_1, .int .i64 x103002_1, .int .i64 0, .int .i64 0, .int .i64 0]) ?_ 3 _ rfl; refine bM ?_; refine blk_put (cs := #[.int .i64 0, .int .i64 x103001_1, .int .i64 0, .int .i64 0, .int .i64 0, .int .i64 0]) ?_ 2 _ rfl; refine bM ?_; refine blk_put (cs := #[.int .i64 0, .int .i64 0, .int .i64 0, .int .i64 0, .int .i64 0, .int .i64 0]) ?_ 1 _ rfl; refine bM ?_; refine blk_put (cs := #[.int .i64 0, .int .i64 0, .int .i64 0, .int .i64 0, .int .i64 0, .int .i64 0]) ?_ 0 _ rfl; refine bM ?_; refine blk_far ?_ NB101_102.out _; exact bD BK101) Try.underlying40 rfl (by kernel_rfl)) rfl ?_
    exact ⟨by first | rfl | (simp [errW_none, errW_some] <;> rfl) | (simp [*, errW_none, errW_some] <;> rfl), sD HB⟩
end Go.Proofs.Ytfdoncgljohndaa.P
namespace Go.Proofs.Ytfdoncgljohndaa.P
open Go.Proofs.YtfdoncgljohndaaH Go.RowKit Go.Proofs.YtfdoncgljohndaaW.PrintWords Go.Proofs.YtfdoncgljohndaaW.PrintLast Go.Proofs.YtfdoncgljohndaaW.PrintMore
attribute [local go_sem] max2_int min2_int max_two min_two max_three min_three max_four min_four   -- for this text's walks alone
attribute [local go_sem] Go.Proofs.YtfdoncgljohndaaH.cell_set_map
def paroleref32_Gather.l0 : Nat → List Int → List (S28) → Int → Int → Int → Int → Int → Int → Int → Int → Option (Int × Int × Int × Int × Int × Int)
 | 0, _, _, _, _, _, _, _, _, _, _ => none
 | k + 1, x0, x1, x2, x8, x103000, x103001, x103002, x103003, x103004, x103005 => if x8 < (x0.length : Int) then ((paroleref32_machine.f k x0 x1 x2 x8).bind fun bt103 => (paroleref32_Gather.l0 k x0 x1 x2 (wrap64 (x8 + 1)) x103000 (wrap64 (x103001 + bt103.2.1)) (wrap64 (x103002 + bt103.2.2.1)) (wrap64 (x103003 + bt103.2.2.2.1)) (wrap64 (x103004 + bt103.2.2.2.2.1)) (wrap64 (x103005 + bt103.2.2.2.2.2)))) else (some (x103000, x103001, x103002, x103003, x103004, x103005))
def paroleref32_Gather.f (k : Nat) (l0 : List Int) (l1 : List (S28)) (a2 : Int) : Option (Int × Int × Int × Int × Int × Int) := paroleref32_Gather.l0 k l0 l1 a2 0 a2 0 0 0 0 0
set_option maxHeartbeats 40000000 in
set_option maxRecDepth 100000 in
theorem paroleref32_Gather.calls (k : Nat) (A0 : Option Addr) (c0 : Nat) (l0 : List Int) (A1 : Option Addr) (c1 : Nat) (l1 : List (S28)) (a2 : Int) (r1 : Int) (r2 : Int) (r3 : Int) (r4 : Int) (r5 : Int) (r6 : Int) (w : World) (hr0 : Kd.C (Kd.int .u64) w A0 l0.length l0) (hc0 : l0.length ≤ c0) (hr1 : Kd.C k28 w A1 l1.length l1) (hc1 : l1.length ≤ c1) (h : paroleref32_Gather.f k l0 l1 a2 = some (r1, r2, r3, r4, r5, r6)) :
  Calls Try.prog 20 #[.slice A0 l0.length c0, .slice A1 l1.length c1, .int .i64 a2] w fun e w' => e = .returned (.agg #[.int .i64 r1, .int .i64 r2, .int .i64 r3, .int .i64 r4, .int .i64 r5, .int .i64 r6]) ∧ Below w.heap.size w w' := by
 have hu40 := Try.underlying40; have HR0 := aM hr0; have HC0 := aM hc0; clear hr0 hc0; have HR1 := aM hr1; have HC1 := aM hc1; clear hr1 hc1; have HB := aM (Below.refl w.heap.size w)
 have H : (paroleref32_Gather.l0 k l0 l1 a2 0 a2 0 0 0 0 0) = some (r1, r2, r3, r4, r5, r6) := h
 clear h; have H' := aM H; clear H
 go_enter Try.func20, Try.ntmps20
 go_wp2_with (first | ((with_reducible refine gate_dst (N := 6) rfl ?_); refine bE (N := 6) (cs := #[.int .i64 0, .int .i64 0, .int .i64 0, .int .i64 0, .int .i64 0, .int .i64 0]) (t := 40) ?_; intro gb101 hg w4 hbox hb; have BK101 := aM (hbox); have GW101 := gE hg HB; have GE101 := gE hg HB; replace HB := sB HB hb; clear hb hbox hg) | ((with_reducible refine gate_dst (N := 7) rfl ?_); refine bE (N := 7) (cs := #[.int .i64 0, .int .i64 0, .int .i64 0, .int .i64 0, .int .i64 0, .int .i64 0]) (t := 40) ?_; intro gb102 hg w5 hbox hb; have BK102 := aM (hbox); have GW102 := gE hg HB; have GE102 := gE hg HB; have NB101_102 := nL hg BK101; replace BK101 := bB BK101 hb; replace HB := sB HB hb; clear hb hbox hg; have hnb6 := NB101_102.out.symm; have hnc6 := NB101_102.out; obtain ⟨hcz7_0, hcz7_1, hcz7_2, hcz7_3, hcz7_4, hcz7_5, hfz7_0, hfz7_1, hfz7_2, hfz7_3, hfz7_4, hfz7_5⟩ := cZ6 BK102))
 go_loopg [8] k (fun kq v8 w' => ∃ (x8_1 : Int) (x103001_1 : Int) (x103002_1 : Int) (x103003_1 : Int) (x103004_1 : Int) (x103005_1 : Int), v8 = .int .i64 x8_1 ∧ Aside0 (paroleref32_Gather.l0 kq l0 l1 a2 x8_1 a2 x103001_1 x103002_1 x103003_1 x103004_1 x103005_1 = some (r1, r2, r3, r4, r5, r6)) ∧ Aside0 (kq ≤ k) ∧ Aside0 (w'.heap[gb101]? = some (.cells #[.int .i64 0, .int .i64 0, .int .i64 0, .int .i64 0, .int .i64 0, .int .i64 0] 40 (0, 0))) ∧ Aside0 (w'.heap[gb102]? = some (.cells #[.int .i64 a2, .int .i64 x103001_1, .int .i64 x103002_1, .int .i64 x103003_1, .int .i64 x103004_1, .int .i64 x103005_1] 40 (0, 0))) ∧ Aside0 (Below w.heap.size w w'))
 case atStart => exact ⟨(0), (0), (0), (0), (0), (0), (by first | rfl | (simp; done) | (simp [*]; done)), H', ⟨Nat.le_refl _⟩, ⟨bF BK101⟩, ⟨by refine bM ?_; refine blk_put (cs := #[.int .i64 a2, .int .i64 0, .int .i64 0, .int .i64 0, .int .i64 0, .int .i64 0]) ?_ 5 _ rfl; refine bM ?_; refine blk_put (cs := #[.int .i64 a2, .int .i64 0, .int .i64 0, .int .i64 0, .int .i64 0, .int .i64 0]) ?_ 4 _ rfl; refine bM ?_; refine blk_put (cs := #[.int .i64 a2, .int .i64 0, .int .i64 0, .int .i64 0, .int .i64 0, .int .i64 0]) ?_ 3 _ rfl; refine bM ?_; refine blk_put (cs := #[.int .i64 a2, .int .i64 0, .int .i64 0, .int .i64 0, .int .i64 0, .int .i64 0]) ?_ 2 _ rfl; refine bM ?_; refine blk_put (cs := #[.int .i64 a2, .int .i64 0, .int .i64 0, .int .i64 0, .int .i64 0, .int .i64 0]) ?_ 1 _ rfl; refine bM ?_; refine blk_put (cs := #[.int .i64 0, .int .i64 0, .int .i64 0, .int .i64 0, .int .i64 0, .int .i64 0]) ?_ 0 _ rfl; exact bD BK102⟩, ⟨sD HB⟩⟩
 case round =>
  clear H'
  try clear c1
  try clear c2
  try clear p2
  try clear c6
  try clear hcz7_0
  try clear hcz7_1
  try clear hcz7_2
  try clear hcz7_3
  try clear hcz7_4
  try clear hcz7_5
  try clear hfz7_0
  try clear hfz7_1
  try clear hfz7_2
  try clear hfz7_3
  try clear hfz7_4
  try clear hfz7_5
  obtain ⟨x8_1, x103001_1, x103002_1, x103003_1, x103004_1, x103005_1, rfl, HA, HK1, BK101, BK102, HB⟩ := hrel
  cases gk with
  | zero => exact absurd HA.out (by simp [paroleref32_Gather.l0])
  | succ k1 =>
   have H := HA.out; clear HA
   simp only [paroleref32_Gather.l0] at H
   by_cases c8 : x8_1 < (l0.length : Int)
   ·rw [if_pos c8] at H
    have c8b0 : decide (x8_1 < (l0.length : Int)) = true := decide_eq_true c8
    clear c8; replace H := Option.bind_eq_some_iff.mp H
    obtain ⟨⟨t103, t104, t105, t106, t107, t108⟩, A90, H⟩ := H
    replace H : (paroleref32_Gather.l0 k1 l0 l1 a2 (wrap64 (x8_1 + 1)) a2 (wrap64 (x103001_1 + t104)) (wrap64 (x103002_1 + t105)) (wrap64 (x103003_1 + t106)) (wrap64 (x103004_1 + t107)) (wrap64 (x103005_1 + t108))) = some (r1, r2, r3, r4, r5, r6) := H
    have A9 := aM A90; clear A90; have H' := aM H; clear H
    go_wp2_with (first | ((with_reducible refine gate_callee (f := 37) rfl ?_); refine gL (some 22) Try.func37 #[.slice A0 l0.length c0, .slice A1 l1.length c1, .int .i64 a2, .int .i64 x8_1] ?_; (with_reducible refine (paroleref32_machine.calls k1 _ _ l0 _ _ l1 a2 x8_1 t103 t104 t105 t106 t107 t108 _ ?side1 ?side2 ?side3 ?side4 A9.out).mono ?_); (case side1 => exact cC HR0 HB); (case side2 => exact HC0.out); (case side3 => exact cC HR1 HB); (case side4 => exact HC1.out); rintro e w10 ⟨rfl, hb⟩; refine ⟨_, rfl, ?_⟩; replace BK101 := bB BK101 hb; replace BK102 := bB BK102 hb; replace HB := sB HB hb; (try clear hb)) | ((with_reducible refine gate_dst (N := 9) rfl ?_); refine bE (N := 9) (cs := #[.int .i64 0, .int .i64 0, .int .i64 0, .int .i64 0, .int .i64 0, .int .i64 0]) (t := 40) ?_; intro gb109 hg w11 hbox hb; have BK109 := aM (hbox); have GW109 := gE hg HB; have GE109 := gE hg HB; have NB101_109 := nL hg BK101; have NB102_109 := nL hg BK102; replace BK101 := bB BK101 hb; replace BK102 := bB BK102 hb; replace HB := sB HB hb; clear hb hbox hg; have hnb12 := NB101_109.out.symm; have hnc12 := NB101_109.out; have hnb13 := NB102_109.out.symm; have hnc13 := NB102_109.out; obtain ⟨hcz14_0, hcz14_1, hcz14_2, hcz14_3, hcz14_4, hcz14_5, hfz14_0, hfz14_1, hfz14_2, hfz14_3, hfz14_4, hfz14_5⟩ := cZ6 BK109; have hnb15 := NB101_102.out.symm; have hnc15 := NB101_102.out; obtain ⟨hcz16_0, hcz16_1, hcz16_2, hcz16_3, hcz16_4, hcz16_5, hfz16_0, hfz16_1, hfz16_2, hfz16_3, hfz16_4, hfz16_5⟩ := cZ6 BK102))
    go_roundg k1
    case measure => have := HK1.out; omega
    case rel => exact ⟨(wrap64 (x8_1 + 1)), (wrap64 (x103001_1 + t104)), (wrap64 (x103002_1 + t105)), (wrap64 (x103003_1 + t106)), (wrap64 (x103004_1 + t107)), (wrap64 (x103005_1 + t108)), (by first | rfl | (simp; done) | (simp [*]; done)), H', ⟨by have := HK1.out; omega⟩, ⟨bF BK101⟩, ⟨by refine bM ?_; refine blk_put (cs := #[.int .i64 a2, .int .i64 (wrap64 (x103001_1 + t104)), .int .i64 (wrap64 (x103002_1 + t105)), .int .i64 (wrap64 (x103003_1 + t106)), .int .i64 (wrap64 (x103004_1 + t107)), .int .i64 x103005_1]) ?_ 5 _ rfl; refine bM ?_; refine blk_put (cs := #[.int .i64 a2, .int .i64 (wrap64 (x103001_1 + t104)), .int .i64 (wrap64 (x103002_1 + t105)), .int .i64 (wrap64 (x103003_1 + t106)), .int .i64 x103004_1, .int .i64 x103005_1]) ?_ 4 _ rfl; refine bM ?_; refine blk_put (cs := #[.int .i64 a2, .int .i64 (wrap64 (x103001_1 + t104)), .int .i64 (wrap64 (x103002_1 + t105)), .int .i64 x103003_1, .int .i64 x103004_1, .int .i64 x103005_1]) ?_ 3 _ rfl; refine bM ?_; refine blk_put (cs := #[.int .i64 a2, .int .i64 (wrap64 (x103001_1 + t104)), .int .i64 x103002_1, .int .i64 x103003_1, .int .i64 x103004_1, .int .i64 x103005_1]) ?_ 2 _ rfl; refine bM ?_; refine blk_put (cs := #[.int .i64 a2, .int .i64 x103001_1, .int .i64 x103002_1, .int .i64 x103003_1, .int .i64 x103004_1, .int .i64 x103005_1]) ?_ 1 _ rfl; refine bM ?_; refine blk_far ?_ NB102_109.out _; refine bM ?_; refine blk_far ?_ NB102_109.out _; refine bM ?_; refine blk_far ?_ NB102_109.out _; refine bM ?_; refine blk_far ?_ NB102_109.out _; refine bM ?_; refine blk_far ?_ NB102_109.out _; refine bM ?_; refine blk_far ?_ NB102_109.out _; exact bD BK102⟩, ⟨sD HB⟩⟩
   ·rw [if_neg c8] at H
    have c8b0 : decide (x8_1 < (l0.length : Int)) = false := decide_eq_false c8
    clear c8
    simp only [Option.some.injEq, Prod.mk.injEq] at H
    obtain ⟨rfl, rfl, rfl, rfl, rfl, rfl⟩ := H
    have hnb17 := NB101_102.out.symm; have hnc17 := NB101_102.out; obtain ⟨hcz18_0, hcz18_1, hcz18_2, hcz18_3, hcz18_4, hcz18_5, hfz18_0, hfz18_1, hfz18_2, hfz18_3, hfz18_4, hfz18_5⟩ := cZ6 BK102; obtain ⟨hcz19_0, hcz19_1, hcz19_2, hcz19_3, hcz19_4, hcz19_5, hfz19_0, hfz19_1, hfz19_2, hfz19_3, hfz19_4, hfz19_5⟩ := cZ6 BK101
    go_wp2
    refine bodyPost_ret (results_cell_row rfl _ _ gb101 40 #[.int .i64 a2, .int .i64 x103001_1, .int .i64 x103002_1, .int .i64 x103003_1, .int .i64 x103004_1, .int .i64 x103005_1] (0, 0) _ rfl (by refine bM ?_; refine blk_put (cs := #[.int .i64 a2, .int .i64 x103001_1, .int .i64 x103002_1, .int .i64 x103003_1, .int .i64 x103004_1, .int .i64 0]) ?_ 5 _ rfl; refine bM ?_; refine blk_put (cs := #[.int .i64 a2, .int .i64 x103001_1, .int .i64 x103002_1, .int .i64 x103003_1, .int .i64 0, .int .i64 0]) ?_ 4 _ rfl; refine bM ?_; refine blk_put (cs := #[.int .i64 a2, .int .i64 x103001_1, .int .i64 x103002_1, .int .i64 0, .int .i64 0, .int .i64 0]) ?_ 3 _ rfl; refine bM ?_; refine blk_put (cs := #[.int .i64 a2, .int .i64 x103001_1, .int .i64 0, .int .i64 0, .int .i64 0, .int .i64 0]) ?_ 2 _ rfl; refine bM ?_; refine blk_put (cs := #[.int .i64 a2, .int .i64 0, .int .i64 0, .int .i64 0, .int .i64 0, .int .i64 0]) ?_ 1 _ rfl; refine bM ?_; refine blk_put (cs := #[.int .i64 0, .int .i64 0, .int .i64 0, .int .i64 0, .int .i64 0, .int .i64 0]) ?_ 0 _ rfl; exact bD BK101) Try.underlying40 rfl (by kernel_rfl)) rfl ?_
    exact ⟨by first | rfl | (simp [errW_none, errW_some] <;> rfl) | (simp [*, errW_none, errW_some] <;> rfl), sD HB⟩
end Go.Proofs.Ytfdoncgljohndaa.P
namespace Go.Proofs.Ytfdoncgljohndaa.P
open Go.Proofs.YtfdoncgljohndaaH Go.RowKit Go.Proofs.YtfdoncgljohndaaW.PrintWords Go.Proofs.YtfdoncgljohndaaW.PrintLast Go.Proofs.YtfdoncgljohndaaW.PrintMore
attribute [local go_sem] max2_int min2_int max_two min_two max_three min_three max_four min_four   -- for this text's walks alone
def paroleref02_Gcd.l0 : Nat → Int → Int → Option (Int)
 | 0, _, _ => none
 | k + 1, x0, x1 => if x1 > 0 then (if x1 = 0 then (none) else (paroleref02_Gcd.l0 k x1 (Int.tmod x0 x1))) else (some x0)
def paroleref02_Gcd.f (k : Nat) (a0 : Int) (a1 : Int) : Option (Int) := paroleref02_Gcd.l0 k a0 a1
set_option maxHeartbeats 40000000 in
set_option maxRecDepth 100000 in
theorem paroleref02_Gcd.calls (k : Nat) (a0 : Int) (a1 : Int) (r : Int) (w : World) (h : paroleref02_Gcd.f k a0 a1 = some r) :
  Calls Try.prog 54 #[.int .i64 a0, .int .i64 a1] w fun e w' => e = .returned (.int .i64 r) ∧ Drawn0 w w' := by
 have H : (paroleref02_Gcd.l0 k a0 a1) = some r := h
 clear h; have H' := aM H; clear H
 go_enter Try.func54, Try.ntmps54
 go_wp2
 go_loopg [0, 1] k (fun kq v0 v1 w' => ∃ (x0_1 : Int) (x1_1 : Int), v0 = .int .i64 x0_1 ∧ v1 = .int .i64 x1_1 ∧ Aside0 (paroleref02_Gcd.l0 kq x0_1 x1_1 = some r) ∧ Aside0 (kq ≤ k) ∧ Drawn0 w w')
 case atStart => exact ⟨(a0), (a1), (by first | rfl | (simp; done) | (simp [*]; done)), (by first | rfl | (simp; done) | (simp [*]; done)), H', ⟨Nat.le_refl _⟩, by repeat (first | exact Drawn0.refl _ | apply Drawn0.step)⟩
 case round =>
  clear H'
  try clear p2
  obtain ⟨x0_1, x1_1, rfl, rfl, HA, HK1, ⟨m1, rfl⟩⟩ := hrel
  cases gk with
  | zero => exact absurd HA.out (by simp [paroleref02_Gcd.l0])
  | succ k1 =>
   have H := HA.out; clear HA
   simp only [paroleref02_Gcd.l0] at H
   by_cases c3 : x1_1 > 0
   ·rw [if_pos c3] at H
    have c3b0 : decide (0 < x1_1) = true := decide_eq_true c3
    clear c3
    by_cases c4 : x1_1 = 0
    ·rw [if_pos c4] at H
     exact absurd H (by simp)
    ·rw [if_neg c4] at H
     have c4b0 : (x1_1 == 0) = false := beq_eq_false_iff_ne.mpr c4
     have c4b1 : (x1_1 != 0) = true := bne_iff_ne.mpr c4
     have H' := aM H; clear H
     go_wp2
     go_roundg k1
     case measure => have := HK1.out; omega
     case rel => exact ⟨(x1_1), (Int.tmod x0_1 x1_1), (by first | rfl | (simp; done) | (simp [*]; done)), (by first | rfl | (simp; done) | (simp [*]; done)), H', ⟨by have := HK1.out; omega⟩, by repeat (first | exact Drawn0.refl _ | apply Drawn0.step)⟩
   ·rw [if_neg c3] at H
    have c3b0 : decide (0 < x1_1) = false := decide_eq_false c3
    clear c3
    obtain rfl := Option.some.inj H
    go_wp2
    go_ret
    exact ⟨by first | rfl | (simp; done) | (simp [*]; done), by repeat (first | exact Drawn0.refl _ | apply Drawn0.step)⟩
end Go.Proofs.Ytfdoncgljohndaa.P
namespace Go.Proofs.Ytfdoncgljohndaa.P
open Go.Proofs.YtfdoncgljohndaaH Go.RowKit Go.Proofs.YtfdoncgljohndaaW.PrintWords Go.Proofs.YtfdoncgljohndaaW.PrintLast Go.Proofs.YtfdoncgljohndaaW.PrintMore
attribute [local go_sem] max2_int min2_int max_two min_two max_three min_three max_four min_four   -- for this text's walks alone
def paroleref02_size.f (a0 : Int) : Option (Int) := if a0 < 0 then (some (wrap64 (-a0))) else (some a0)
set_option maxHeartbeats 40000000 in
set_option maxRecDepth 100000 in
theorem paroleref02_size.calls (a0 : Int) (r : Int) (w : World) (h : paroleref02_size.f a0 = some r) :
  Calls Try.prog 55 #[.int .i64 a0] w fun e w' => e = .returned (.int .i64 r) ∧ Drawn0 w w' := by
 have H : (if a0 < 0 then (some (wrap64 (-a0))) else (some a0)) = some r := h
 clear h
 by_cases c2 : a0 < 0
 ·rw [if_pos c2] at H
  have c2b0 : decide (a0 < 0) = true := decide_eq_true c2
  clear c2
  obtain rfl := Option.some.inj H
  go_enter Try.func55, Try.ntmps55
  go_wp2
  go_ret
  exact ⟨by first | rfl | (simp; done) | (simp [*]; done), by repeat (first | exact Drawn0.refl _ | apply Drawn0.step)⟩
 rw [if_neg c2] at H
 have c2b0 : decide (a0 < 0) = false := decide_eq_false c2
 clear c2
 obtain rfl := Option.some.inj H
 go_enter Try.func55, Try.ntmps55
 go_wp2
 go_ret
 exact ⟨by first | rfl | (simp; done) | (simp [*]; done), by repeat (first | exact Drawn0.refl _ | apply Drawn0.step)⟩
end Go.Proofs.Ytfdoncgljohndaa.P
namespace Go.Proofs.Ytfdoncgljohndaa.P
open Go.Proofs.YtfdoncgljohndaaH Go.RowKit Go.Proofs.YtfdoncgljohndaaW.PrintWords Go.Proofs.YtfdoncgljohndaaW.PrintLast Go.Proofs.YtfdoncgljohndaaW.PrintMore
attribute [local go_sem] max2_int min2_int max_two min_two max_three min_three max_four min_four   -- for this text's walks alone
def paroleref02_half.f (a0 : Int) (a1 : Int) : Option (Int) := if a1 = 0 then (none) else ((paroleref02_size.f (wrap64 (Int.tdiv a0 a1))).bind fun t101 => (some t101))
set_option maxHeartbeats 40000000 in
set_option maxRecDepth 100000 in
theorem paroleref02_half.calls (a0 : Int) (a1 : Int) (r : Int) (w : World) (h : paroleref02_half.f a0 a1 = some r) :
  Calls Try.prog 56 #[.int .i64 a0, .int .i64 a1] w fun e w' => e = .returned (.int .i64 r) ∧ Drawn0 w w' := by
 have H : (if a1 = 0 then (none) else ((paroleref02_size.f (wrap64 (Int.tdiv a0 a1))).bind fun t101 => (some t101))) = some r := h
 clear h
 by_cases c3 : a1 = 0
 ·rw [if_pos c3] at H
  exact absurd H (by simp)
 rw [if_neg c3] at H
 have c3b0 : (a1 == 0) = false := beq_eq_false_iff_ne.mpr c3
 have c3b1 : (a1 != 0) = true := bne_iff_ne.mpr c3
 replace H := Option.bind_eq_some_iff.mp H
 obtain ⟨t101, A40, H⟩ := H
 replace H : (some t101) = some r := H
 have A4 := aM A40; clear A40
 obtain rfl := Option.some.inj H
 go_enter Try.func56, Try.ntmps56
 go_wp2_with (first | ((with_reducible refine gate_callee (f := 55) rfl ?_); refine gL (some 8) Try.func55 #[.int .i64 (wrap64 (Int.tdiv a0 a1))] ?_; (with_reducible refine (paroleref02_size.calls (wrap64 (Int.tdiv a0 a1)) t101 _ A4.out).mono ?_); rintro e w' ⟨rfl, ⟨nd, rfl⟩⟩; refine ⟨_, rfl, ?_⟩))
 go_ret
 exact ⟨by first | rfl | (simp; done) | (simp [*]; done), by repeat (first | exact Drawn0.refl _ | apply Drawn0.step)⟩
end Go.Proofs.Ytfdoncgljohndaa.P
namespace Go.Proofs.Ytfdoncgljohndaa.P
open Go.Proofs.YtfdoncgljohndaaH Go.RowKit Go.Proofs.YtfdoncgljohndaaW.PrintWords Go.Proofs.YtfdoncgljohndaaW.PrintLast Go.Proofs.YtfdoncgljohndaaW.PrintMore
attribute [local go_sem] max2_int min2_int max_two min_two max_three min_three max_four min_four   -- for this text's walks alone
def paroleref02_Most.f  : Option (Int) := some 4611686018427387904
set_option maxHeartbeats 40000000 in
set_option maxRecDepth 100000 in
theorem paroleref02_Most.calls  (r : Int) (w : World) (h : paroleref02_Most.f  = some r) :
  Calls Try.prog 57 #[] w fun e w' => e = .returned (.int .i64 r) ∧ Drawn0 w w' := by
 have H : (some 4611686018427387904) = some r := h
 clear h
 obtain rfl := Option.some.inj H
 go_enter Try.func57, Try.ntmps57
 go_wp2
 go_ret
 exact ⟨by first | rfl | (simp; done) | (simp [*]; done), by repeat (first | exact Drawn0.refl _ | apply Drawn0.step)⟩
end Go.Proofs.Ytfdoncgljohndaa.P
namespace Go.Proofs.Ytfdoncgljohndaa.P
open Go.Proofs.YtfdoncgljohndaaH Go.RowKit Go.Proofs.YtfdoncgljohndaaW.PrintWords Go.Proofs.YtfdoncgljohndaaW.PrintLast Go.Proofs.YtfdoncgljohndaaW.PrintMore
attribute [local go_sem] max2_int min2_int max_two min_two max_three min_three max_four min_four   -- for this text's walks alone
attribute [local go_sem] Go.Proofs.YtfdoncgljohndaaH.cell_set_map
mutual
def paroleref02_NewIn.j1 : Nat → Int → Int → Option (Int × Int × Int)
 | 0, _, _ => none
 | k + 1, x5, x6 => if x5 = 0 then (some (0, 1, 0)) else (if x5 = (-9223372036854775808) then (paroleref02_NewIn.j2 k x5 x6 true) else (paroleref02_NewIn.j2 k x5 x6 (x6 == (-9223372036854775808))))
def paroleref02_NewIn.j2 : Nat → Int → Int → Bool → Option (Int × Int × Int)
 | 0, _, _, _ => none
 | k + 1, x5, x6, x43 => if x43 = true then (some (0, 0, 2)) else ((paroleref02_size.f x5).bind fun t102 => ((paroleref02_size.f x6).bind fun t103 => ((paroleref02_Gcd.f k t102 t103).bind fun t104 => ((paroleref02_half.f x5 t104).bind fun t105 => ((paroleref02_half.f x6 t104).bind fun t106 => ((paroleref02_Most.f).bind fun t107 => (if t105 > t107 then (paroleref02_NewIn.j3 k x5 x6 t105 t106 true) else ((paroleref02_Most.f).bind fun t108 => (paroleref02_NewIn.j3 k x5 x6 t105 t106 (decide (t106 > t108)))))))))))
def paroleref02_NewIn.j3 : Nat → Int → Int → Int → Int → Bool → Option (Int × Int × Int)
 | 0, _, _, _, _, _ => none
 | k + 1, x5, x6, x9, x10, x63 => if x63 = true then (some (0, 0, 2)) else (if ((decide (x5 < 0)) != (decide (x6 < 0))) = true then (some (wrap64 (-x9), x10, 0)) else (some (x9, x10, 0)))
def paroleref02_NewIn.l0 : Nat → Int → Int → Option (Int × Int × Int)
 | 0, _, _ => none
 | k + 1, x5, x6 => if (Int.tmod x5 2) = 0 then (if (Int.tmod x6 2) = 0 then (if x5 = 0 then (paroleref02_NewIn.j1 k x5 x6) else (paroleref02_NewIn.l0 k (wrap64 (Int.tdiv x5 2)) (wrap64 (Int.tdiv x6 2)))) else (paroleref02_NewIn.j1 k x5 x6)) else (paroleref02_NewIn.j1 k x5 x6)
end
def paroleref02_NewIn.f (k : Nat) (a0 : Int) (a1 : Int) : Option (Int × Int × Int) := if a1 = 0 then (some (0, 0, 20)) else (paroleref02_NewIn.l0 k a0 a1)
set_option maxHeartbeats 40000000 in
set_option maxRecDepth 100000 in
theorem paroleref02_NewIn.calls (k : Nat) (a0 : Int) (a1 : Int) (r1 : Int) (r2 : Int) (r3 : Int) (w : World) (h : paroleref02_NewIn.f k a0 a1 = some (r1, r2, r3)) :
  Calls Try.prog 39 #[.int .i64 a0, .int .i64 a1] w fun e w' => e = .returned (.agg #[.int .i64 r1, .int .i64 r2, .int .i64 r3]) ∧ Below w.heap.size w w' := by
 have hu45 := Try.underlying45; have hu43 := Try.underlying43; have HB := aM (Below.refl w.heap.size w)
 have H : (if a1 = 0 then (some (0, 0, 20)) else (paroleref02_NewIn.l0 k a0 a1)) = some (r1, r2, r3) := h
 clear h
 by_cases c3 : a1 = 0
 ·rw [if_pos c3] at H
  have c3b0 : (a1 == 0) = true := beq_iff_eq.mpr c3
  have c3b1 : (a1 != 0) = false := bne_eq_false_iff_eq.mpr c3
  clear c3
  simp only [Option.some.injEq, Prod.mk.injEq] at H
  obtain ⟨rfl, rfl, rfl⟩ := H
  go_enter Try.func39, Try.ntmps39
  go_wp2_with (first | ((with_reducible refine gate_dst (N := 4) rfl ?_); refine bE (N := 4) (cs := #[.int .i64 0, .int .i64 0, .int .i64 0]) (t := 45) ?_; intro gb101 hg w4 hbox hb; have BK101 := aM (hbox); have GW101 := gE hg HB; have GE101 := gE hg HB; replace HB := sB HB hb; clear hb hbox hg; obtain ⟨hcz5_0, hcz5_1, hcz5_2, hfz5_0, hfz5_1, hfz5_2⟩ := cZ3 BK101))
  refine bodyPost_ret (results_cell_row rfl _ _ gb101 45 #[.int .i64 0, .int .i64 0, .int .i64 20] (0, 0) _ rfl (by refine bM ?_; refine blk_put (cs := #[.int .i64 0, .int .i64 0, .int .i64 0]) ?_ 2 _ rfl; refine bM ?_; refine blk_put (cs := #[.int .i64 0, .int .i64 0, .int .i64 0]) ?_ 1 _ rfl; refine bM ?_; refine blk_put (cs := #[.int .i64 0, .int .i64 0, .int .i64 0]) ?_ 0 _ rfl; exact bD BK101) Try.underlying45 rfl (by kernel_rfl)) rfl ?_
  exact ⟨by first | rfl | (simp [errW_none, errW_some] <;> rfl) | (simp [*, errW_none, errW_some] <;> rfl), sD HB⟩
 rw [if_neg c3] at H
 have c3b0 : (a1 == 0) = false := beq_eq_false_iff_ne.mpr c3
 have c3b1 : (a1 != 0) = true := bne_iff_ne.mpr c3
 have HC6 := aM H; clear H
 go_enter Try.func39, Try.ntmps39
 go_upto_block 0 with (first | ((with_reducible refine gate_dst (N := 4) rfl ?_); refine bE (N := 4) (cs := #[.int .i64 0, .int .i64 0, .int .i64 0]) (t := 45) ?_; intro gb101 hg w7 hbox hb; have BK101 := aM (hbox); have GW101 := gE hg HB; have GE101 := gE hg HB; replace HB := sB HB hb; clear hb hbox hg))
 (try simp only [Act.put, List.setIfInBounds_toArray, List.set_cons_zero, List.set_cons_succ])
 go_cut [5, 6] (fun v5 v6 wc => ∃ (kq : Nat) (x5_5 : Int) (x6_5 : Int), v5 = .int .i64 x5_5 ∧ v6 = .int .i64 x6_5 ∧ Aside0 (paroleref02_NewIn.j1 kq x5_5 x6_5 = some (r1, r2, r3)) ∧ Aside0 (kq ≤ k) ∧ Aside0 (wc.heap[gb101]? = some (.cells #[.int .i64 0, .int .i64 0, .int .i64 0] 45 (0, 0))) ∧ Aside0 (Below w.heap.size w wc))
 case first =>
  have H := HC6.out; clear HC6; have H' := aM H; clear H
  go_wp2
  go_loopg [5, 6] k (fun kq v5 v6 w' => ∃ (x5_1 : Int) (x6_1 : Int), v5 = .int .i64 x5_1 ∧ v6 = .int .i64 x6_1 ∧ Aside0 (paroleref02_NewIn.l0 kq x5_1 x6_1 = some (r1, r2, r3)) ∧ Aside0 (kq ≤ k) ∧ Aside0 (w'.heap[gb101]? = some (.cells #[.int .i64 0, .int .i64 0, .int .i64 0] 45 (0, 0))) ∧ Aside0 (Below w.heap.size w w'))
  case atStart => exact ⟨(a0), (a1), (by first | rfl | (simp; done) | (simp [*]; done)), (by first | rfl | (simp; done) | (simp [*]; done)), H', ⟨Nat.le_refl _⟩, ⟨by exact bD BK101⟩, ⟨sD HB⟩⟩
  case round =>
   clear H'
   try clear p2
   try clear c3
   try clear c3b0
   try clear c3b1
   try clear hcz5_0
   try clear hcz5_1
   try clear hcz5_2
   try clear hfz5_0
   try clear hfz5_1
   try clear hfz5_2
   obtain ⟨x5_1, x6_1, rfl, rfl, HA, HK1, BK101, HB⟩ := hrel
   cases gk with
   | zero => exact absurd HA.out (by simp [paroleref02_NewIn.l0])
   | succ k1 =>
    have H := HA.out; clear HA
    simp only [paroleref02_NewIn.l0] at H
    by_cases c8 : (Int.tmod x5_1 2) = 0
    ·rw [if_pos c8] at H
     have c8b0 : ((Int.tmod x5_1 2) == 0) = true := beq_iff_eq.mpr c8
     have c8b1 : ((Int.tmod x5_1 2) != 0) = false := bne_eq_false_iff_eq.mpr c8
     clear c8
     (first | rw [c8b0] | (simp only [i64_w, i32_w]; rw [c8b0]) | skip)
     by_cases c9 : (Int.tmod x6_1 2) = 0
     ·rw [if_pos c9] at H
      have c9b0 : ((Int.tmod x6_1 2) == 0) = true := beq_iff_eq.mpr c9
      have c9b1 : ((Int.tmod x6_1 2) != 0) = false := bne_eq_false_iff_eq.mpr c9
      clear c9
      by_cases c10 : x5_1 = 0
      ·rw [if_pos c10] at H
       have c10b0 : (x5_1 == 0) = true := beq_iff_eq.mpr c10
       have c10b1 : (x5_1 != 0) = false := bne_eq_false_iff_eq.mpr c10
       clear c10; have H' := aM H; clear H
       go_wp2
       go_meet
       case rel => exact ⟨_, (x5_1), (x6_1), (by first | rfl | (simp; done) | (simp [*]; done)), (by first | rfl | (simp; done) | (simp [*]; done)), H', ⟨by have := HK1.out; first | omega | exact Nat.le_refl _⟩, ⟨by exact bD BK101⟩, ⟨sD HB⟩⟩
      ·rw [if_neg c10] at H
       have c10b0 : (x5_1 == 0) = false := beq_eq_false_iff_ne.mpr c10
       have c10b1 : (x5_1 != 0) = true := bne_iff_ne.mpr c10
       have H' := aM H; clear H
       go_wp2
       go_roundg k1
       case measure => have := HK1.out; omega
       case rel => exact ⟨(wrap64 (Int.tdiv x5_1 2)), (wrap64 (Int.tdiv x6_1 2)), (by first | rfl | (simp; done) | (simp [*]; done)), (by first | rfl | (simp; done) | (simp [*]; done)), H', ⟨by have := HK1.out; omega⟩, ⟨by exact bD BK101⟩, ⟨sD HB⟩⟩
     ·rw [if_neg c9] at H
      have c9b0 : ((Int.tmod x6_1 2) == 0) = false := beq_eq_false_iff_ne.mpr c9
      have c9b1 : ((Int.tmod x6_1 2) != 0) = true := bne_iff_ne.mpr c9
      have H' := aM H; clear H
      go_wp2
      go_meet
      case rel => exact ⟨_, (x5_1), (x6_1), (by first | rfl | (simp; done) | (simp [*]; done)), (by first | rfl | (simp; done) | (simp [*]; done)), H', ⟨by have := HK1.out; first | omega | exact Nat.le_refl _⟩, ⟨by exact bD BK101⟩, ⟨sD HB⟩⟩
    ·rw [if_neg c8] at H
     have c8b0 : ((Int.tmod x5_1 2) == 0) = false := beq_eq_false_iff_ne.mpr c8
     have c8b1 : ((Int.tmod x5_1 2) != 0) = true := bne_iff_ne.mpr c8
     (first | rw [c8b0] | (simp only [i64_w, i32_w]; rw [c8b0]) | skip)
     have H' := aM H; clear H
     go_wp2
     go_meet
     case rel => exact ⟨_, (x5_1), (x6_1), (by first | rfl | (simp; done) | (simp [*]; done)), (by first | rfl | (simp; done) | (simp [*]; done)), H', ⟨by have := HK1.out; first | omega | exact Nat.le_refl _⟩, ⟨by exact bD BK101⟩, ⟨sD HB⟩⟩
 case rest =>
  clear HC6
  try clear c1
  try clear p2
  try clear c3
  try clear c3b0
  try clear c3b1
  try clear p6
  try clear c8
  try clear c8b0
  try clear c8b1
  try clear c9
  try clear c9b0
  try clear c9b1
  try clear c10
  try clear c10b0
  try clear c10b1
  try clear hcz5_0
  try clear hcz5_1
  try clear hcz5_2
  try clear hfz5_0
  try clear hfz5_1
  try clear hfz5_2
  try clear p2
  obtain ⟨kq, x5_5, x6_5, rfl, rfl, HA, HJ5, BK101, HB⟩ := hcut
  cases kq with
  | zero => exact absurd HA.out (by simp [paroleref02_NewIn.j1])
  | succ kj5 =>
   have H := HA.out; clear HA
   simp only [paroleref02_NewIn.j1] at H
   by_cases c11 : x5_5 = 0
   ·rw [if_pos c11] at H
    have c11b0 : (x5_5 == 0) = true := beq_iff_eq.mpr c11
    have c11b1 : (x5_5 != 0) = false := bne_eq_false_iff_eq.mpr c11
    clear c11
    simp only [Option.some.injEq, Prod.mk.injEq] at H
    obtain ⟨rfl, rfl, rfl⟩ := H
    obtain ⟨hcz12_0, hcz12_1, hcz12_2, hfz12_0, hfz12_1, hfz12_2⟩ := cZ3 BK101
    go_wp2
    refine bodyPost_ret (results_cell_row rfl _ _ gb101 45 #[.int .i64 0, .int .i64 1, .int .i64 0] (0, 0) _ rfl (by refine bM ?_; refine blk_put (cs := #[.int .i64 0, .int .i64 1, .int .i64 0]) ?_ 2 _ rfl; refine bM ?_; refine blk_put (cs := #[.int .i64 0, .int .i64 0, .int .i64 0]) ?_ 1 _ rfl; refine bM ?_; refine blk_put (cs := #[.int .i64 0, .int .i64 0, .int .i64 0]) ?_ 0 _ rfl; exact bD BK101) Try.underlying45 rfl (by kernel_rfl)) rfl ?_
    exact ⟨by first | rfl | (simp [errW_none, errW_some] <;> rfl) | (simp [*, errW_none, errW_some] <;> rfl), sD HB⟩
   ·rw [if_neg c11] at H
    have c11b0 : (x5_5 == 0) = false := beq_eq_false_iff_ne.mpr c11
    have c11b1 : (x5_5 != 0) = true := bne_iff_ne.mpr c11
    have HC13 := aM H; clear H
    go_upto_region 11 with (fail)
    go_cut [43] (fun v43 wc => ∃ (kq : Nat) (x43_12 : Bool), v43 = .bool x43_12 ∧ Aside0 (paroleref02_NewIn.j2 kq x5_5 x6_5 x43_12 = some (r1, r2, r3)) ∧ Aside0 (kq ≤ kj5) ∧ Aside0 (wc.heap[gb101]? = some (.cells #[.int .i64 0, .int .i64 0, .int .i64 0] 45 (0, 0))) ∧ Aside0 (Below w.heap.size w wc))
    case first =>
     have H := HC13.out; clear HC13
     by_cases c14 : x5_5 = (-9223372036854775808)
     ·rw [if_pos c14] at H
      have c14b0 : (x5_5 == (-9223372036854775808)) = true := beq_iff_eq.mpr c14
      have c14b1 : (x5_5 != (-9223372036854775808)) = false := bne_eq_false_iff_eq.mpr c14
      clear c14
      (first | rw [c14b0] | (simp only [i64_w, i32_w]; rw [c14b0]) | skip)
      have H' := aM H; clear H
      go_wp2
      go_meet
      case rel => exact ⟨_, (true), (by first | rfl | (simp; done) | (simp [*]; done)), H', ⟨by have := HJ5.out; first | omega | exact Nat.le_refl _⟩, ⟨by exact bD BK101⟩, ⟨sD HB⟩⟩
     ·rw [if_neg c14] at H
      have c14b0 : (x5_5 == (-9223372036854775808)) = false := beq_eq_false_iff_ne.mpr c14
      have c14b1 : (x5_5 != (-9223372036854775808)) = true := bne_iff_ne.mpr c14
      (first | rw [c14b0] | (simp only [i64_w, i32_w]; rw [c14b0]) | skip)
      have H' := aM H; clear H
      go_wp2
      go_meet
      case rel => exact ⟨_, ((x6_5 == (-9223372036854775808))), (by first | rfl | (simp; done) | (simp [*]; done)), H', ⟨by have := HJ5.out; first | omega | exact Nat.le_refl _⟩, ⟨by exact bD BK101⟩, ⟨sD HB⟩⟩
    case rest =>
     clear HC13
     try clear c1
     try clear p2
     try clear c3
     try clear c3b0
     try clear c3b1
     try clear p6
     try clear c8
     try clear c8b0
     try clear c8b1
     try clear c9
     try clear c9b0
     try clear c9b1
     try clear c10
     try clear c10b0
     try clear c10b1
     try clear c11
     try clear c11b0
     try clear c11b1
     try clear c14
     try clear c14b0
     try clear c14b1
     try clear hcz12_0
     try clear hcz12_1
     try clear hcz12_2
     try clear hcz5_0
     try clear hcz5_1
     try clear hcz5_2
     try clear hfz12_0
     try clear hfz12_1
     try clear hfz12_2
     try clear hfz5_0
     try clear hfz5_1
     try clear hfz5_2
     try clear p2
     try clear p6
     obtain ⟨kq, x43_12, rfl, HA, HJ12, BK101, HB⟩ := hcut
     cases kq with
     | zero => exact absurd HA.out (by simp [paroleref02_NewIn.j2])
     | succ kj12 =>
      have H := HA.out; clear HA
      simp only [paroleref02_NewIn.j2] at H
      by_cases c15 : x43_12 = true
      ·subst c15
       have H1 : (some (0, 0, 2)) = some (r1, r2, r3) := by rw [if_pos rfl] at H; exact H
       clear H; have H := H1; clear H1
       simp only [Option.some.injEq, Prod.mk.injEq] at H
       obtain ⟨rfl, rfl, rfl⟩ := H
       obtain ⟨hcz16_0, hcz16_1, hcz16_2, hfz16_0, hfz16_1, hfz16_2⟩ := cZ3 BK101
       go_wp2
       refine bodyPost_ret (results_cell_row rfl _ _ gb101 45 #[.int .i64 0, .int .i64 0, .int .i64 2] (0, 0) _ rfl (by refine bM ?_; refine blk_put (cs := #[.int .i64 0, .int .i64 0, .int .i64 0]) ?_ 2 _ rfl; refine bM ?_; refine blk_put (cs := #[.int .i64 0, .int .i64 0, .int .i64 0]) ?_ 1 _ rfl; refine bM ?_; refine blk_put (cs := #[.int .i64 0, .int .i64 0, .int .i64 0]) ?_ 0 _ rfl; exact bD BK101) Try.underlying45 rfl (by kernel_rfl)) rfl ?_
       exact ⟨by first | rfl | (simp [errW_none, errW_some] <;> rfl) | (simp [*, errW_none, errW_some] <;> rfl), sD HB⟩
      ·replace c15 := Bool.eq_false_iff.mpr c15
       subst c15
       have H1 : ((paroleref02_size.f x5_5).bind fun t102 => ((paroleref02_size.f x6_5).bind fun t103 => ((paroleref02_Gcd.f kj12 t102 t103).bind fun t104 => ((paroleref02_half.f x5_5 t104).bind fun t105 => ((paroleref02_half.f x6_5 t104).bind fun t106 => ((paroleref02_Most.f).bind fun t107 => (if t105 > t107 then (paroleref02_NewIn.j3 kj12 x5_5 x6_5 t105 t106 true) else ((paroleref02_Most.f).bind fun t108 => (paroleref02_NewIn.j3 kj12 x5_5 x6_5 t105 t106 (decide (t106 > t108))))))))))) = some (r1, r2, r3) := by rw [if_neg (show ¬ (false = true) by decide)] at H; exact H
       clear H; have H := H1; clear H1; replace H := Option.bind_eq_some_iff.mp H
       obtain ⟨t102, A170, H⟩ := H
       replace H : ((paroleref02_size.f x6_5).bind fun t103 => ((paroleref02_Gcd.f kj12 t102 t103).bind fun t104 => ((paroleref02_half.f x5_5 t104).bind fun t105 => ((paroleref02_half.f x6_5 t104).bind fun t106 => ((paroleref02_Most.f).bind fun t107 => (if t105 > t107 then (paroleref02_NewIn.j3 kj12 x5_5 x6_5 t105 t106 true) else ((paroleref02_Most.f).bind fun t108 => (paroleref02_NewIn.j3 kj12 x5_5 x6_5 t105 t106 (decide (t106 > t108)))))))))) = some (r1, r2, r3) := H
       have A17 := aM A170; clear A170; replace H := Option.bind_eq_some_iff.mp H
       obtain ⟨t103, A180, H⟩ := H
       replace H : ((paroleref02_Gcd.f kj12 t102 t103).bind fun t104 => ((paroleref02_half.f x5_5 t104).bind fun t105 => ((paroleref02_half.f x6_5 t104).bind fun t106 => ((paroleref02_Most.f).bind fun t107 => (if t105 > t107 then (paroleref02_NewIn.j3 kj12 x5_5 x6_5 t105 t106 true) else ((paroleref02_Most.f).bind fun t108 => (paroleref02_NewIn.j3 kj12 x5_5 x6_5 t105 t106 (decide (t106 > t108))))))))) = some (r1, r2, r3) := H
       have A18 := aM A180; clear A180; replace H := Option.bind_eq_some_iff.mp H
       obtain ⟨t104, A190, H⟩ := H
       replace H : ((paroleref02_half.f x5_5 t104).bind fun t105 => ((paroleref02_half.f x6_5 t104).bind fun t106 => ((paroleref02_Most.f).bind fun t107 => (if t105 > t107 then (paroleref02_NewIn.j3 kj12 x5_5 x6_5 t105 t106 true) else ((paroleref02_Most.f).bind fun t108 => (paroleref02_NewIn.j3 kj12 x5_5 x6_5 t105 t106 (decide (t106 > t108)))))))) = some (r1, r2, r3) := H
       have A19 := aM A190; clear A190; replace H := Option.bind_eq_some_iff.mp H
       obtain ⟨t105, A200, H⟩ := H
       replace H : ((paroleref02_half.f x6_5 t104).bind fun t106 => ((paroleref02_Most.f).bind fun t107 => (if t105 > t107 then (paroleref02_NewIn.j3 kj12 x5_5 x6_5 t105 t106 true) else ((paroleref02_Most.f).bind fun t108 => (paroleref02_NewIn.j3 kj12 x5_5 x6_5 t105 t106 (decide (t106 > t108))))))) = some (r1, r2, r3) := H
       have A20 := aM A200; clear A200; replace H := Option.bind_eq_some_iff.mp H
       obtain ⟨t106, A210, H⟩ := H
       replace H : ((paroleref02_Most.f).bind fun t107 => (if t105 > t107 then (paroleref02_NewIn.j3 kj12 x5_5 x6_5 t105 t106 true) else ((paroleref02_Most.f).bind fun t108 => (paroleref02_NewIn.j3 kj12 x5_5 x6_5 t105 t106 (decide (t106 > t108)))))) = some (r1, r2, r3) := H
       have A21 := aM A210; clear A210; have HC22 := aM H; clear H
       go_upto_region 16 with (first | ((with_reducible refine gate_callee (f := 55) rfl ?_); refine gL (some 46) Try.func55 #[.int .i64 x5_5] ?_; (with_reducible refine (paroleref02_size.calls x5_5 t102 _ A17.out).mono ?_); rintro e w' ⟨rfl, ⟨nd, rfl⟩⟩; refine ⟨_, rfl, ?_⟩) | ((with_reducible refine gate_callee (f := 55) rfl ?_); refine gL (some 48) Try.func55 #[.int .i64 x6_5] ?_; (with_reducible refine (paroleref02_size.calls x6_5 t103 _ A18.out).mono ?_); rintro e w' ⟨rfl, ⟨nd, rfl⟩⟩; refine ⟨_, rfl, ?_⟩) | ((with_reducible refine gate_callee (f := 54) rfl ?_); refine gL (some 49) Try.func54 #[.int .i64 t102, .int .i64 t103] ?_; (with_reducible refine (paroleref02_Gcd.calls kj12 t102 t103 t104 _ A19.out).mono ?_); rintro e w' ⟨rfl, ⟨nd, rfl⟩⟩; refine ⟨_, rfl, ?_⟩) | ((with_reducible refine gate_callee (f := 56) rfl ?_); refine gL (some 52) Try.func56 #[.int .i64 x5_5, .int .i64 t104] ?_; (with_reducible refine (paroleref02_half.calls x5_5 t104 t105 _ A20.out).mono ?_); rintro e w' ⟨rfl, ⟨nd, rfl⟩⟩; refine ⟨_, rfl, ?_⟩) | ((with_reducible refine gate_callee (f := 56) rfl ?_); refine gL (some 55) Try.func56 #[.int .i64 x6_5, .int .i64 t104] ?_; (with_reducible refine (paroleref02_half.calls x6_5 t104 t106 _ A21.out).mono ?_); rintro e w' ⟨rfl, ⟨nd, rfl⟩⟩; refine ⟨_, rfl, ?_⟩))
       (try simp only [Act.put, List.setIfInBounds_toArray, List.set_cons_zero, List.set_cons_succ])
       go_cut [63] (fun v63 wc => ∃ (kq : Nat) (x63_21 : Bool), v63 = .bool x63_21 ∧ Aside0 (paroleref02_NewIn.j3 kq x5_5 x6_5 t105 t106 x63_21 = some (r1, r2, r3)) ∧ Aside0 (kq ≤ kj12) ∧ Aside0 (wc.heap[gb101]? = some (.cells #[.int .i64 0, .int .i64 0, .int .i64 0] 45 (0, 0))) ∧ Aside0 (Below w.heap.size w wc))
       case first =>
        have H := HC22.out; clear HC22; replace H := Option.bind_eq_some_iff.mp H
        obtain ⟨t107, A230, H⟩ := H
        replace H : (if t105 > t107 then (paroleref02_NewIn.j3 kj12 x5_5 x6_5 t105 t106 true) else ((paroleref02_Most.f).bind fun t108 => (paroleref02_NewIn.j3 kj12 x5_5 x6_5 t105 t106 (decide (t106 > t108))))) = some (r1, r2, r3) := H
        have A23 := aM A230; clear A230
        by_cases c24 : t105 > t107
        ·rw [if_pos c24] at H
         have c24b0 : decide (t107 < t105) = true := decide_eq_true c24
         clear c24
         (first | rw [c24b0] | (simp only [i64_w, i32_w]; rw [c24b0]) | skip)
         have H' := aM H; clear H
         go_wp2_with (first | ((with_reducible refine gate_callee (f := 57) rfl ?_); refine gL (some 57) Try.func57 #[] ?_; (with_reducible refine (paroleref02_Most.calls  t107 _ A23.out).mono ?_); rintro e w' ⟨rfl, ⟨nd, rfl⟩⟩; refine ⟨_, rfl, ?_⟩))
         go_meet
         case rel => exact ⟨_, (true), (by first | rfl | (simp; done) | (simp [*]; done)), H', ⟨by have := HJ5.out; have := HJ12.out; first | omega | exact Nat.le_refl _⟩, ⟨by exact bD BK101⟩, ⟨sD HB⟩⟩
        ·rw [if_neg c24] at H
         have c24b0 : decide (t107 < t105) = false := decide_eq_false c24
         clear c24
         (first | rw [c24b0] | (simp only [i64_w, i32_w]; rw [c24b0]) | skip)
         replace H := Option.bind_eq_some_iff.mp H
         obtain ⟨t108, A250, H⟩ := H
         replace H : (paroleref02_NewIn.j3 kj12 x5_5 x6_5 t105 t106 (decide (t106 > t108))) = some (r1, r2, r3) := H
         have A25 := aM A250; clear A250; have H' := aM H; clear H
         go_wp2_with (first | ((with_reducible refine gate_callee (f := 57) rfl ?_); refine gL (some 57) Try.func57 #[] ?_; (with_reducible refine (paroleref02_Most.calls  t107 _ A23.out).mono ?_); rintro e w' ⟨rfl, ⟨nd, rfl⟩⟩; refine ⟨_, rfl, ?_⟩) | (go_at_call 57; (with_reducible refine (paroleref02_Most.calls  t108 _ A25.out).mono ?_); rintro e w' ⟨rfl, ⟨nd, rfl⟩⟩))
         go_meet
         case rel => exact ⟨_, (decide (t106 > t108)), (by first | rfl | (simp; done) | (simp [*]; done)), H', ⟨by have := HJ5.out; have := HJ12.out; first | omega | exact Nat.le_refl _⟩, ⟨by exact bD BK101⟩, ⟨sD HB⟩⟩
       case rest =>
        clear HC22
        try clear c1
        try clear c2
        try clear p2
        try clear c3
        try clear c3b0
        try clear c3b1
        try clear c5
        try clear p6
        try clear c8
        try clear c8b0
        try clear c8b1
        try clear c9
        try clear c9b0
        try clear c9b1
        try clear c10
        try clear c10b0
        try clear c10b1
        try clear c11
        try clear c11b0
        try clear c11b1
        try clear c14
        try clear c14b0
        try clear c14b1
        try clear c15
        try clear c24
        try clear c24b0
        try clear hcz12_0
        try clear hcz12_1
        try clear hcz12_2
        try clear hcz16_0
        try clear hcz16_1
        try clear hcz16_2
        try clear hcz5_0
        try clear hcz5_1
        try clear hcz5_2
        try clear hfz12_0
        try clear hfz12_1
        try clear hfz12_2
        try clear hfz16_0
        try clear hfz16_1
        try clear hfz16_2
        try clear hfz5_0
        try clear hfz5_1
        try clear hfz5_2
        try clear p2
        try clear p6
        obtain ⟨kq, x63_21, rfl, HA, HJ21, BK101, HB⟩ := hcut
        cases kq with
        | zero => exact absurd HA.out (by simp [paroleref02_NewIn.j3])
        | succ kj21 =>
         have H := HA.out; clear HA
         simp only [paroleref02_NewIn.j3] at H
         by_cases c26 : x63_21 = true
         ·subst c26
          have H1 : (some (0, 0, 2)) = some (r1, r2, r3) := by rw [if_pos rfl] at H; exact H
          clear H; have H := H1; clear H1
          simp only [Option.some.injEq, Prod.mk.injEq] at H
          obtain ⟨rfl, rfl, rfl⟩ := H
          obtain ⟨hcz27_0, hcz27_1, hcz27_2, hfz27_0, hfz27_1, hfz27_2⟩ := cZ3 BK101
          go_wp2
          refine bodyPost_ret (results_cell_row rfl _ _ gb101 45 #[.int .i64 0, .int .i64 0, .int .i64 2] (0, 0) _ rfl (by refine bM ?_; refine blk_put (cs := #[.int .i64 0, .int .i64 0, .int .i64 0]) ?_ 2 _ rfl; refine bM ?_; refine blk_put (cs := #[.int .i64 0, .int .i64 0, .int .i64 0]) ?_ 1 _ rfl; refine bM ?_; refine blk_put (cs := #[.int .i64 0, .int .i64 0, .int .i64 0]) ?_ 0 _ rfl; exact bD BK101) Try.underlying45 rfl (by kernel_rfl)) rfl ?_
          exact ⟨by first | rfl | (simp [errW_none, errW_some] <;> rfl) | (simp [*, errW_none, errW_some] <;> rfl), sD HB⟩
         ·replace c26 := Bool.eq_false_iff.mpr c26
          subst c26
          have H1 : (if ((decide (x5_5 < 0)) != (decide (x6_5 < 0))) = true then (some (wrap64 (-t105), t106, 0)) else (some (t105, t106, 0))) = some (r1, r2, r3) := by rw [if_neg (show ¬ (false = true) by decide)] at H; exact H
          clear H; have H := H1; clear H1
          by_cases c28 : ((decide (x5_5 < 0)) != (decide (x6_5 < 0))) = true
          ·rw [if_pos c28] at H
           have c28b0 : ((decide (x5_5 < 0)) != (decide (x6_5 < 0))) = true := c28
           (try (have c28b1 : decide ((decide (x5_5 < 0)) = (decide (x6_5 < 0))) = false := by simpa using c28))
           (try (have c28b2 : ((decide (x5_5 < 0)) == (decide (x6_5 < 0))) = false := by simpa using c28))
           (try (have c28b3 : ¬ ((decide (x5_5 < 0)) = (decide (x6_5 < 0))) := by simpa using c28))
           clear c28
           simp only [Option.some.injEq, Prod.mk.injEq] at H
           obtain ⟨rfl, rfl, rfl⟩ := H
           obtain ⟨hcz29_0, hcz29_1, hcz29_2, hfz29_0, hfz29_1, hfz29_2⟩ := cZ3 BK101
           go_wp2
           refine bodyPost_ret (results_cell_row rfl _ _ gb101 45 #[.int .i64 (wrap64 (-t105)), .int .i64 t106, .int .i64 0] (0, 0) _ rfl (by refine bM ?_; refine blk_put (cs := #[.int .i64 (wrap64 (-t105)), .int .i64 t106, .int .i64 0]) ?_ 2 _ rfl; refine bM ?_; refine blk_put (cs := #[.int .i64 (wrap64 (-t105)), .int .i64 0, .int .i64 0]) ?_ 1 _ rfl; refine bM ?_; refine blk_put (cs := #[.int .i64 0, .int .i64 0, .int .i64 0]) ?_ 0 _ rfl; exact bD BK101) Try.underlying45 rfl (by kernel_rfl)) rfl ?_
           exact ⟨by first | rfl | (simp [errW_none, errW_some] <;> rfl) | (simp [*, errW_none, errW_some] <;> rfl), sD HB⟩
          ·rw [if_neg c28] at H
           have c28b0 : ((decide (x5_5 < 0)) != (decide (x6_5 < 0))) = false := by simpa using c28
           (try (have c28b1 : decide ((decide (x5_5 < 0)) = (decide (x6_5 < 0))) = true := by simpa using c28))
           (try (have c28b2 : ((decide (x5_5 < 0)) == (decide (x6_5 < 0))) = true := by simpa using c28))
           clear c28
           simp only [Option.some.injEq, Prod.mk.injEq] at H
           obtain ⟨rfl, rfl, rfl⟩ := H
           obtain ⟨hcz30_0, hcz30_1, hcz30_2, hfz30_0, hfz30_1, hfz30_2⟩ := cZ3 BK101
           go_wp2
           refine bodyPost_ret (results_cell_row rfl _ _ gb101 45 #[.int .i64 t105, .int .i64 t106, .int .i64 0] (0, 0) _ rfl (by refine bM ?_; refine blk_put (cs := #[.int .i64 t105, .int .i64 t106, .int .i64 0]) ?_ 2 _ rfl; refine bM ?_; refine blk_put (cs := #[.int .i64 t105, .int .i64 0, .int .i64 0]) ?_ 1 _ rfl; refine bM ?_; refine blk_put (cs := #[.int .i64 0, .int .i64 0, .int .i64 0]) ?_ 0 _ rfl; exact bD BK101) Try.underlying45 rfl (by kernel_rfl)) rfl ?_
           exact ⟨by first | rfl | (simp [errW_none, errW_some] <;> rfl) | (simp [*, errW_none, errW_some] <;> rfl), sD HB⟩
end Go.Proofs.Ytfdoncgljohndaa.P

/- A part of the claim PriceBonds: lemmas, printed functions with their contracts, plain laws. -/
import Derived.Test.YtohnkcmbogcfhaacPriceBonds4
import Derived.Laws.EntriesVeiled
set_option linter.unusedVariables false
set_option linter.unusedSimpArgs false
namespace Go.Proofs.Ytohnkcmbogcfhaa.P
open Go.Proofs.YtohnkcmbogcfhaaH Go.RowKit Go.Proofs.YtohnkcmbogcfhaaW.PrintWords Go.Proofs.YtohnkcmbogcfhaaW.PrintLast Go.Proofs.YtohnkcmbogcfhaaW.PrintMore
attribute [local go_sem] max2_int min2_int max_two min_two max_three min_three max_four min_four   -- for this text's walks alone
attribute [local go_sem] Go.Proofs.YtohnkcmbogcfhaaH.cell_set_map
def price_right.l0 : Nat → List (S60) → List (S60) → Int → Int → Option (Bool)
 | 0, _, _, _, _ => none
 | k + 1, x0, x5, x6, x7 => if x7 < x6 then (if 0 ≤ x7 then (if x7 < (x5.length : Int) then ((price_firm.f ((rd_T60 x5 x7).f0)).bind fun t103 => (if t103 = true then (if x7 > 0 then (if 0 ≤ (wrap64 (x7 - 1)) then (if (wrap64 (x7 - 1)) < (x0.length : Int) then (if ((rd_T60 x0 (wrap64 (x7 - 1))).f0) ≥ ((rd_T60 x5 x7).f0) then (some false) else ((rat_Valid.f k ((rd_T60 x5 x7).f1.f0) ((rd_T60 x5 x7).f1.f1)).bind fun t105 => (if t105 = true then (if ((rd_T60 x5 x7).f1.f0) < 0 then (some false) else (price_right.l0 k x0 x5 x6 (wrap64 (x7 + 1)))) else (some false)))) else (none)) else (none)) else ((rat_Valid.f k ((rd_T60 x5 x7).f1.f0) ((rd_T60 x5 x7).f1.f1)).bind fun t106 => (if t106 = true then (if ((rd_T60 x5 x7).f1.f0) < 0 then (some false) else (price_right.l0 k x0 x5 x6 (wrap64 (x7 + 1)))) else (some false)))) else (some false))) else (none)) else (none)) else (some (decide ((x0.length : Int) ≤ 8)))
def price_right.f (k : Nat) (l0 : List (S60)) : Option (Bool) := price_right.l0 k l0 l0 (l0.length : Int) 0
def price_right.T4 : Bool × List (List Nat × List Nat) := (true, [([], []), ([0], [0]), ([1], [1]), ([2], [2]), ([3, 2], [3]), ([4], [4]), ([5, 4], [4, 5]), ([6, 4, 4], [4, 6]), ([7], [7]), ([7], [7]), ([9, 7], [7, 9]), ([8, 10, 7], [7, 8, 10]), ([11, 7], [7, 11]), ([12, 7], [7, 12]), ([7], [7]), ([14, 7], [7, 14]), ([13, 15, 7], [7, 13, 15]), ([7, 16, 4], [4, 7, 16]), ([4, 17], [4, 17]), ([18, 7], [18]), ([19], [19]), ([20, 19], [19, 20]), ([21, 19, 19], [19, 21]), ([22, 19], [19, 22]), ([19, 23], [19, 23]), ([24, 22], [24]), ([25], [25]), ([26, 25], [25, 26]), ([27, 25], [25, 27]), ([28, 25], [25, 28]), ([25, 29], [25, 29])])
def price_right.B4 : List Nat := [0, 1, 3, 7, 15, 31, 63, 127, 255, 255, 767, 2047, 4095, 8191, 255, 16639, 65535, 131071, 262143, 524287, 1048575, 2097151, 4194303, 8388607, 16777215, 33554431, 67108863, 134217727, 268435455, 536870911, 1073741823]
theorem price_right.tab4 : rtab .any (opsOf Try.f100 4) = price_right.T4 := by kernel_rfl
theorem price_right.bits4 : waitsOk price_right.T4.2 price_right.B4 = true := by kernel_rfl
set_option maxHeartbeats 40000000 in
set_option maxRecDepth 100000 in
theorem price_right.calls (k : Nat) (A0 : Option Addr) (c0 : Nat) (l0 : List (S60)) (r : Bool) (w : World) (hr0 : Kd.C k60 w A0 l0.length l0) (hc0 : l0.length ≤ c0) (h : price_right.f k l0 = some r) :
  Calls Try.prog 100 #[.slice A0 l0.length c0] w fun e w' => e = .returned (.bool r) ∧ Below w.heap.size w w' := by
 have hu60 := Try.underlying60; have hu35 := Try.underlying35; have HR0 := aM hr0; have HC0 := aM hc0; clear hr0 hc0; have HB := aM (Below.refl w.heap.size w)
 have H : (price_right.l0 k l0 l0 (l0.length : Int) 0) = some r := h
 clear h; have H' := aM H; clear H
 go_enter Try.func100, Try.ntmps100
 go_wp2
 go_loopg [7] k (fun kq v7 w' => ∃ (x7_1 : Int), v7 = .int .i64 x7_1 ∧ Aside0 (price_right.l0 kq l0 l0 (l0.length : Int) x7_1 = some r) ∧ Aside0 (kq ≤ k) ∧ Aside0 (Below w.heap.size w w'))
 case atStart => exact ⟨(0), (by first | rfl | (simp; done) | (simp [*]; done)), H', ⟨Nat.le_refl _⟩, ⟨sD HB⟩⟩
 case round =>
  clear H'
  try clear c1
  obtain ⟨x7_1, rfl, HA, HK1, HB⟩ := hrel
  cases gk with
  | zero => exact absurd HA.out (by simp [price_right.l0])
  | succ k1 =>
   have H := HA.out; clear HA
   simp only [price_right.l0] at H
   by_cases c2 : x7_1 < (l0.length : Int)
   ·rw [if_pos c2] at H
    have c2b0 : decide (x7_1 < (l0.length : Int)) = true := decide_eq_true c2
    clear c2
    by_cases c3 : 0 ≤ x7_1
    ·rw [if_pos c3] at H
     have c3b0 : decide (0 ≤ x7_1) = true := decide_eq_true c3
     clear c3
     by_cases c4 : x7_1 < (l0.length : Int)
     ·rw [if_pos c4] at H
      have c4b0 : decide (x7_1 < (l0.length : Int)) = true := decide_eq_true c4
      clear c4; replace H := Option.bind_eq_some_iff.mp H
      obtain ⟨t103, A50, H⟩ := H
      replace H : (if t103 = true then (if x7_1 > 0 then (if 0 ≤ (wrap64 (x7_1 - 1)) then (if (wrap64 (x7_1 - 1)) < (l0.length : Int) then (if ((rd_T60 l0 (wrap64 (x7_1 - 1))).f0) ≥ ((rd_T60 l0 x7_1).f0) then (some false) else ((rat_Valid.f k1 ((rd_T60 l0 x7_1).f1.f0) ((rd_T60 l0 x7_1).f1.f1)).bind fun t105 => (if t105 = true then (if ((rd_T60 l0 x7_1).f1.f0) < 0 then (some false) else (price_right.l0 k1 l0 l0 (l0.length : Int) (wrap64 (x7_1 + 1)))) else (some false)))) else (none)) else (none)) else ((rat_Valid.f k1 ((rd_T60 l0 x7_1).f1.f0) ((rd_T60 l0 x7_1).f1.f1)).bind fun t106 => (if t106 = true then (if ((rd_T60 l0 x7_1).f1.f0) < 0 then (some false) else (price_right.l0 k1 l0 l0 (l0.length : Int) (wrap64 (x7_1 + 1)))) else (some false)))) else (some false)) = some r := H
      have A5 := aM A50; clear A50
      by_cases c6 : t103 = true
      ·subst c6
       have H1 : (if x7_1 > 0 then (if 0 ≤ (wrap64 (x7_1 - 1)) then (if (wrap64 (x7_1 - 1)) < (l0.length : Int) then (if ((rd_T60 l0 (wrap64 (x7_1 - 1))).f0) ≥ ((rd_T60 l0 x7_1).f0) then (some false) else ((rat_Valid.f k1 ((rd_T60 l0 x7_1).f1.f0) ((rd_T60 l0 x7_1).f1.f1)).bind fun t105 => (if t105 = true then (if ((rd_T60 l0 x7_1).f1.f0) < 0 then (some false) else (price_right.l0 k1 l0 l0 (l0.length : Int) (wrap64 (x7_1 + 1)))) else (some false)))) else (none)) else (none)) else ((rat_Valid.f k1 ((rd_T60 l0 x7_1).f1.f0) ((rd_T60 l0 x7_1).f1.f1)).bind fun t106 => (if t106 = true then (if ((rd_T60 l0 x7_1).f1.f0) < 0 then (some false) else (price_right.l0 k1 l0 l0 (l0.length : Int) (wrap64 (x7_1 + 1)))) else (some false)))) = some r := by rw [if_pos rfl] at H; exact H
       clear H; have H := H1; clear H1
       by_cases c7 : x7_1 > 0
       ·rw [if_pos c7] at H
        have c7b0 : decide (0 < x7_1) = true := decide_eq_true c7
        clear c7
        obtain ⟨ji8, hji8⟩ : ∃ j_ : Int, (wrap64 (x7_1 - 1)) = j_ := ⟨_, rfl⟩
        replace H : (if 0 ≤ (ji8) then (if (ji8) < (l0.length : Int) then (if ((rd_T60 l0 (ji8)).f0) ≥ ((rd_T60 l0 x7_1).f0) then (some false) else ((rat_Valid.f k1 ((rd_T60 l0 x7_1).f1.f0) ((rd_T60 l0 x7_1).f1.f1)).bind fun t105 => (if t105 = true then (if ((rd_T60 l0 x7_1).f1.f0) < 0 then (some false) else (price_right.l0 k1 l0 l0 (l0.length : Int) (wrap64 (x7_1 + 1)))) else (some false)))) else (none)) else (none)) = some r := by first | (rw [hji8] at H; exact H) | (simp only [hji8] at H ⊢; exact H)
        (try rw [hji8] at A5)
        have hji8w : (IntKind.i64.wrap (x7_1 - 1)) = ji8 := (i64_w _).trans hji8
        by_cases c9 : 0 ≤ (ji8)
        ·rw [if_pos c9] at H
         have c9b0 : decide (0 ≤ (ji8)) = true := decide_eq_true c9
         clear c9
         by_cases c10 : (ji8) < (l0.length : Int)
         ·rw [if_pos c10] at H
          have c10b0 : decide ((ji8) < (l0.length : Int)) = true := decide_eq_true c10
          clear c10
          by_cases c11 : ((rd_T60 l0 (ji8)).f0) ≥ ((rd_T60 l0 x7_1).f0)
          ·rw [if_pos c11] at H
           have c11b0 : decide (((rd_T60 l0 x7_1).f0) ≤ ((rd_T60 l0 (ji8)).f0)) = true := decide_eq_true c11
           clear c11
           obtain rfl := Option.some.inj H
           have p101 : 0 ≤ (x7_1 : Int) := of_decide_eq_true (by first | (with_reducible assumption) | assumption)
           have q101 : x7_1 < (l0.length : Int) := of_decide_eq_true (by first | (with_reducible assumption) | assumption)
           obtain ⟨ad101, e101, hx101_0, hx101_1, hx101_2⟩ := at_T60 HR0.out x7_1 p101 q101
           cases e101
           replace hx101_0 := (HB.out.cell (World.block_lt_of_cell? w _ hx101_0)).trans hx101_0; replace hx101_1 := (HB.out.cell (World.block_lt_of_cell? w _ hx101_1)).trans hx101_1; replace hx101_2 := (HB.out.cell (World.block_lt_of_cell? w _ hx101_2)).trans hx101_2; replace p101 := eq_true p101; replace q101 := eq_true q101
           try go_wp2_with (first | ((with_reducible refine gate_dst (N := 4) rfl ?_); refine bE (N := 4) (cs := #[.int .i64 0, .int .i64 0, .int .i64 0]) (t := 60) ?_; intro gb102 hg w12 hbox hb; have BK102 := aM (hbox); have GW102 := gE hg HB; have GE102 := gE hg HB; replace HB := sB HB hb; clear hb hbox hg; obtain ⟨hcz13_0, hcz13_1, hcz13_2, hfz13_0, hfz13_1, hfz13_2⟩ := cZ3 BK102))
           have n0_ : Aside0 ((((w12.setCell ⟨gb102, 0, none⟩ (.int .i64 ((rd_T60 l0 x7_1).f0))).setCell ⟨gb102, 1, none⟩ (.int .i64 ((rd_T60 l0 x7_1).f1.f0))).setCell ⟨gb102, 2, none⟩ (.int .i64 ((rd_T60 l0 x7_1).f1.f1))).heap[gb102]? = some (.cells #[.int .i64 ((rd_T60 l0 x7_1).f0), .int .i64 ((rd_T60 l0 x7_1).f1.f0), .int .i64 ((rd_T60 l0 x7_1).f1.f1)] 60 (0, 0))) := ⟨by refine bM ?_; refine blk_put (cs := #[.int .i64 ((rd_T60 l0 x7_1).f0), .int .i64 ((rd_T60 l0 x7_1).f1.f0), .int .i64 0]) ?_ 2 _ rfl; refine bM ?_; refine blk_put (cs := #[.int .i64 ((rd_T60 l0 x7_1).f0), .int .i64 0, .int .i64 0]) ?_ 1 _ rfl; refine bM ?_; refine blk_put (cs := #[.int .i64 0, .int .i64 0, .int .i64 0]) ?_ 0 _ rfl; exact bD BK102⟩
           have n1_ : Aside0 (Below w.heap.size w (((w12.setCell ⟨gb102, 0, none⟩ (.int .i64 ((rd_T60 l0 x7_1).f0))).setCell ⟨gb102, 1, none⟩ (.int .i64 ((rd_T60 l0 x7_1).f1.f0))).setCell ⟨gb102, 2, none⟩ (.int .i64 ((rd_T60 l0 x7_1).f1.f1)))) := ⟨sD HB⟩
           (try clear BK102); (try clear HB)
           generalize (((w12.setCell ⟨gb102, 0, none⟩ (.int .i64 ((rd_T60 l0 x7_1).f0))).setCell ⟨gb102, 1, none⟩ (.int .i64 ((rd_T60 l0 x7_1).f1.f0))).setCell ⟨gb102, 2, none⟩ (.int .i64 ((rd_T60 l0 x7_1).f1.f1))) = w14 at n0_ n1_ ⊢
           have BK102 := n0_; have HB := n1_; clear n0_ n1_; replace BK102 := aM (blk_drew BK102.out); replace HB := aM (below_drew1 HB.out)
           have p104 : 0 ≤ ((ji8) : Int) := of_decide_eq_true (by first | (with_reducible assumption) | assumption)
           have q104 : (ji8) < (l0.length : Int) := of_decide_eq_true (by first | (with_reducible assumption) | assumption)
           obtain ⟨ad104, e104, hx104_0, hx104_1, hx104_2⟩ := at_T60 HR0.out (ji8) p104 q104
           have hw104_2 := hx104_2; have hw104_1 := hx104_1; have hw104_0 := hx104_0
           obtain rfl : ad101 = ad104 := (by injection e104)
           replace hx104_0 := (HB.out.cell (World.block_lt_of_cell? w _ hx104_0)).trans hx104_0; replace hx104_1 := (HB.out.cell (World.block_lt_of_cell? w _ hx104_1)).trans hx104_1; replace hx104_2 := (HB.out.cell (World.block_lt_of_cell? w _ hx104_2)).trans hx104_2; replace p104 := eq_true p104; replace q104 := eq_true q104
           refine start_ (n := 31) (S := fun w' => w'.cell? ⟨gb102, 0, none⟩ = some (.int .i64 ((rd_T60 l0 x7_1).f0)) ∧ w'.cell? ⟨gb102, 1, none⟩ = some (.int .i64 ((rd_T60 l0 x7_1).f1.f0)) ∧ w'.cell? ⟨gb102, 2, none⟩ = some (.int .i64 ((rd_T60 l0 x7_1).f1.f1)) ∧ w'.cell? (ad101.add (((ji8)).toNat * 3)) = some (.int .i64 ((rd_T60 l0 (ji8)).f0)) ∧ w'.cell? ⟨(ad101.add (((ji8)).toNat * 3)).block, (ad101.add (((ji8)).toNat * 3)).off + 1, none⟩ = some (.int .i64 ((rd_T60 l0 (ji8)).f1.f0)) ∧ w'.cell? ⟨(ad101.add (((ji8)).toNat * 3)).block, (ad101.add (((ji8)).toNat * 3)).off + 2, none⟩ = some (.int .i64 ((rd_T60 l0 (ji8)).f1.f1))) (ds := []) #[false, false, false, false, false, false, false, false, false, false, false, false, false, false, false, false, false, false, false, false, false, false, false, false, false, false, false, false, false, false, false] (by kernel_rfl) rfl rfl ⟨cE BK102 0, cE BK102 1, cE BK102 2, ((HB.out.cell (World.block_lt_of_cell? w _ hw104_0)).trans hw104_0), ((HB.out.cell (World.block_lt_of_cell? w _ hw104_1)).trans hw104_1), ((HB.out.cell (World.block_lt_of_cell? w _ hw104_2)).trans hw104_2)⟩ (fun hHeld => ?_); refine with_tabW price_right.tab4 price_right.bits4 (fun HT_ HW_ => ?_)
           generalize w14.drew = w15 at BK102 HB hx104_0 hx104_1 hx104_2 hHeld ⊢
           refine pX (i := 0) (N := some 12) rfl rfl HT_ ?_
           refine tX (i := 1) (N := some 13) rfl rfl HT_ HW_ hHeld (Or.inl ⟨by rfl, by rintro w' ⟨s0, s1, s2, s3, s4, s5⟩; go_simp; with_reducible rfl⟩) ?_
           refine oX (i := 2) (N := some 14) rfl rfl HT_ (fun K hK => ?_)
           refine gS Try.func95 #[.int .i64 ((rd_T60 l0 x7_1).f0)] ?_
           with_reducible refine (price_firm.calls ((rd_T60 l0 x7_1).f0) true _ A5.out).mono ?_
           rintro e w' ⟨rfl, ⟨nd, rfl⟩⟩
           refine ⟨_, rfl, ?_⟩
           refine hK.out _ _ ⟨cE BK102 0, cE BK102 1, cE BK102 2, ((HB.out.cell (World.block_lt_of_cell? w _ hw104_0)).trans hw104_0), ((HB.out.cell (World.block_lt_of_cell? w _ hw104_1)).trans hw104_1), ((HB.out.cell (World.block_lt_of_cell? w _ hw104_2)).trans hw104_2)⟩ (fun hHeld => ?_)
           clear hK K
           refine nX (some 14) ?_
           refine pX (i := 3) (N := some 15) rfl rfl HT_ ?_
           refine pX (i := 4) (N := some 16) rfl rfl HT_ ?_
           refine pX (i := 5) (N := some 17) rfl rfl HT_ ?_
           refine pX (i := 6) (N := some 18) rfl rfl HT_ ?_
           refine pX (i := 7) (N := some 19) rfl rfl HT_ ?_
           refine pX (i := 8) (N := some 20) rfl rfl HT_ ?_
           refine pX (i := 9) (N := some 21) rfl rfl HT_ ?_
           refine pX (i := 10) (N := some 22) rfl rfl HT_ ?_
           refine pX (i := 11) (N := some 23) rfl rfl HT_ ?_
           refine pX (i := 12) (N := some 24) rfl rfl HT_ ?_
           refine pX (i := 14) (N := some 26) rfl rfl HT_ ?_
           refine tX (i := 13) (N := some 25) rfl rfl HT_ HW_ hHeld (Or.inl ⟨by rfl, by rintro w' ⟨s0, s1, s2, s3, s4, s5⟩; go_simp; with_reducible rfl⟩) ?_
           refine tX (i := 15) (N := some 27) rfl rfl HT_ HW_ hHeld (Or.inl ⟨by rfl, by rintro w' ⟨s0, s1, s2, s3, s4, s5⟩; go_simp; with_reducible rfl⟩) ?_
           refine pX (i := 16) (N := some 28) rfl rfl HT_ ?_
           refine pX (i := 17) (N := some 29) rfl rfl HT_ ?_
           refine pX (i := 18) (N := some 30) rfl rfl HT_ ?_
           refine pX (i := 19) (N := some 31) rfl rfl HT_ ?_
           refine pU (i := 20) (N := some 32) rfl rfl HT_ ?_
           refine pU (i := 21) (N := some 33) rfl rfl HT_ ?_
           refine pU (i := 22) (N := some 34) rfl rfl HT_ ?_
           refine pU (i := 23) (N := some 35) rfl rfl HT_ ?_
           refine pX (i := 24) (N := some 36) rfl rfl HT_ ?_
           refine pX (i := 25) (N := some 37) rfl rfl HT_ ?_
           refine pU (i := 26) (N := some 38) rfl rfl HT_ ?_
           refine pU (i := 27) (N := some 39) rfl rfl HT_ ?_
           refine pU (i := 28) (N := some 40) rfl rfl HT_ ?_
           refine pU (i := 29) (N := some 41) rfl rfl HT_ ?_
           refine pX (i := 30) (N := some 42) rfl rfl HT_ ?_
           refine done_ (done_of HT_.out (by kernel_rfl)) ?_
           try go_wp2
           go_ret
           exact ⟨by first | rfl | (simp [errW_none, errW_some] <;> rfl) | (simp only [← hji8]; first | rfl | (simp [errW_none, errW_some] <;> rfl)) | (simp [*, errW_none, errW_some] <;> rfl), sD HB⟩
          ·rw [if_neg c11] at H
           have c11b0 : decide (((rd_T60 l0 x7_1).f0) ≤ ((rd_T60 l0 (ji8)).f0)) = false := decide_eq_false c11
           clear c11; replace H := Option.bind_eq_some_iff.mp H
           obtain ⟨t105, A160, H⟩ := H
           replace H : (if t105 = true then (if ((rd_T60 l0 x7_1).f1.f0) < 0 then (some false) else (price_right.l0 k1 l0 l0 (l0.length : Int) (wrap64 (x7_1 + 1)))) else (some false)) = some r := H
           have A16 := aM A160; clear A160
           by_cases c17 : t105 = true
           ·subst c17
            have H1 : (if ((rd_T60 l0 x7_1).f1.f0) < 0 then (some false) else (price_right.l0 k1 l0 l0 (l0.length : Int) (wrap64 (x7_1 + 1)))) = some r := by rw [if_pos rfl] at H; exact H
            clear H; have H := H1; clear H1
            by_cases c18 : ((rd_T60 l0 x7_1).f1.f0) < 0
            ·rw [if_pos c18] at H
             have c18b0 : decide (((rd_T60 l0 x7_1).f1.f0) < 0) = true := decide_eq_true c18
             clear c18
             obtain rfl := Option.some.inj H
             have p101 : 0 ≤ (x7_1 : Int) := of_decide_eq_true (by first | (with_reducible assumption) | assumption)
             have q101 : x7_1 < (l0.length : Int) := of_decide_eq_true (by first | (with_reducible assumption) | assumption)
             obtain ⟨ad101, e101, hx101_0, hx101_1, hx101_2⟩ := at_T60 HR0.out x7_1 p101 q101
             cases e101
             replace hx101_0 := (HB.out.cell (World.block_lt_of_cell? w _ hx101_0)).trans hx101_0; replace hx101_1 := (HB.out.cell (World.block_lt_of_cell? w _ hx101_1)).trans hx101_1; replace hx101_2 := (HB.out.cell (World.block_lt_of_cell? w _ hx101_2)).trans hx101_2; replace p101 := eq_true p101; replace q101 := eq_true q101
             try go_wp2_with (first | ((with_reducible refine gate_dst (N := 4) rfl ?_); refine bE (N := 4) (cs := #[.int .i64 0, .int .i64 0, .int .i64 0]) (t := 60) ?_; intro gb102 hg w19 hbox hb; have BK102 := aM (hbox); have GW102 := gE hg HB; have GE102 := gE hg HB; replace HB := sB HB hb; clear hb hbox hg; obtain ⟨hcz20_0, hcz20_1, hcz20_2, hfz20_0, hfz20_1, hfz20_2⟩ := cZ3 BK102))
             have n0_ : Aside0 ((((w19.setCell ⟨gb102, 0, none⟩ (.int .i64 ((rd_T60 l0 x7_1).f0))).setCell ⟨gb102, 1, none⟩ (.int .i64 ((rd_T60 l0 x7_1).f1.f0))).setCell ⟨gb102, 2, none⟩ (.int .i64 ((rd_T60 l0 x7_1).f1.f1))).heap[gb102]? = some (.cells #[.int .i64 ((rd_T60 l0 x7_1).f0), .int .i64 ((rd_T60 l0 x7_1).f1.f0), .int .i64 ((rd_T60 l0 x7_1).f1.f1)] 60 (0, 0))) := ⟨by refine bM ?_; refine blk_put (cs := #[.int .i64 ((rd_T60 l0 x7_1).f0), .int .i64 ((rd_T60 l0 x7_1).f1.f0), .int .i64 0]) ?_ 2 _ rfl; refine bM ?_; refine blk_put (cs := #[.int .i64 ((rd_T60 l0 x7_1).f0), .int .i64 0, .int .i64 0]) ?_ 1 _ rfl; refine bM ?_; refine blk_put (cs := #[.int .i64 0, .int .i64 0, .int .i64 0]) ?_ 0 _ rfl; exact bD BK102⟩
             have n1_ : Aside0 (Below w.heap.size w (((w19.setCell ⟨gb102, 0, none⟩ (.int .i64 ((rd_T60 l0 x7_1).f0))).setCell ⟨gb102, 1, none⟩ (.int .i64 ((rd_T60 l0 x7_1).f1.f0))).setCell ⟨gb102, 2, none⟩ (.int .i64 ((rd_T60 l0 x7_1).f1.f1)))) := ⟨sD HB⟩
             (try clear BK102); (try clear HB)
             generalize (((w19.setCell ⟨gb102, 0, none⟩ (.int .i64 ((rd_T60 l0 x7_1).f0))).setCell ⟨gb102, 1, none⟩ (.int .i64 ((rd_T60 l0 x7_1).f1.f0))).setCell ⟨gb102, 2, none⟩ (.int .i64 ((rd_T60 l0 x7_1).f1.f1))) = w21 at n0_ n1_ ⊢
             have BK102 := n0_; have HB := n1_; clear n0_ n1_; replace BK102 := aM (blk_drew BK102.out); replace HB := aM (below_drew1 HB.out)
             have p104 : 0 ≤ ((ji8) : Int) := of_decide_eq_true (by first | (with_reducible assumption) | assumption)
             have q104 : (ji8) < (l0.length : Int) := of_decide_eq_true (by first | (with_reducible assumption) | assumption)
             obtain ⟨ad104, e104, hx104_0, hx104_1, hx104_2⟩ := at_T60 HR0.out (ji8) p104 q104
             have hw104_2 := hx104_2; have hw104_1 := hx104_1; have hw104_0 := hx104_0
             obtain rfl : ad101 = ad104 := (by injection e104)
             replace hx104_0 := (HB.out.cell (World.block_lt_of_cell? w _ hx104_0)).trans hx104_0; replace hx104_1 := (HB.out.cell (World.block_lt_of_cell? w _ hx104_1)).trans hx104_1; replace hx104_2 := (HB.out.cell (World.block_lt_of_cell? w _ hx104_2)).trans hx104_2; replace p104 := eq_true p104; replace q104 := eq_true q104
             refine start_ (n := 31) (S := fun w' => w'.cell? ⟨gb102, 0, none⟩ = some (.int .i64 ((rd_T60 l0 x7_1).f0)) ∧ w'.cell? ⟨gb102, 1, none⟩ = some (.int .i64 ((rd_T60 l0 x7_1).f1.f0)) ∧ w'.cell? ⟨gb102, 2, none⟩ = some (.int .i64 ((rd_T60 l0 x7_1).f1.f1)) ∧ w'.cell? (ad101.add (((ji8)).toNat * 3)) = some (.int .i64 ((rd_T60 l0 (ji8)).f0)) ∧ w'.cell? ⟨(ad101.add (((ji8)).toNat * 3)).block, (ad101.add (((ji8)).toNat * 3)).off + 1, none⟩ = some (.int .i64 ((rd_T60 l0 (ji8)).f1.f0)) ∧ w'.cell? ⟨(ad101.add (((ji8)).toNat * 3)).block, (ad101.add (((ji8)).toNat * 3)).off + 2, none⟩ = some (.int .i64 ((rd_T60 l0 (ji8)).f1.f1))) (ds := []) #[false, false, false, false, false, false, false, false, false, false, false, false, false, false, false, false, false, false, false, false, false, false, false, false, false, false, false, false, false, false, false] (by kernel_rfl) rfl rfl ⟨cE BK102 0, cE BK102 1, cE BK102 2, ((HB.out.cell (World.block_lt_of_cell? w _ hw104_0)).trans hw104_0), ((HB.out.cell (World.block_lt_of_cell? w _ hw104_1)).trans hw104_1), ((HB.out.cell (World.block_lt_of_cell? w _ hw104_2)).trans hw104_2)⟩ (fun hHeld => ?_); refine with_tabW price_right.tab4 price_right.bits4 (fun HT_ HW_ => ?_)
             generalize w21.drew = w22 at BK102 HB hx104_0 hx104_1 hx104_2 hHeld ⊢
             refine pX (i := 0) (N := some 12) rfl rfl HT_ ?_
             refine tX (i := 1) (N := some 13) rfl rfl HT_ HW_ hHeld (Or.inl ⟨by rfl, by rintro w' ⟨s0, s1, s2, s3, s4, s5⟩; go_simp; with_reducible rfl⟩) ?_
             refine oX (i := 2) (N := some 14) rfl rfl HT_ (fun K hK => ?_)
             refine gS Try.func95 #[.int .i64 ((rd_T60 l0 x7_1).f0)] ?_
             with_reducible refine (price_firm.calls ((rd_T60 l0 x7_1).f0) true _ A5.out).mono ?_
             rintro e w' ⟨rfl, ⟨nd, rfl⟩⟩
             refine ⟨_, rfl, ?_⟩
             refine hK.out _ _ ⟨cE BK102 0, cE BK102 1, cE BK102 2, ((HB.out.cell (World.block_lt_of_cell? w _ hw104_0)).trans hw104_0), ((HB.out.cell (World.block_lt_of_cell? w _ hw104_1)).trans hw104_1), ((HB.out.cell (World.block_lt_of_cell? w _ hw104_2)).trans hw104_2)⟩ (fun hHeld => ?_)
             clear hK K
             refine nX (some 14) ?_
             refine pX (i := 3) (N := some 15) rfl rfl HT_ ?_
             refine pX (i := 4) (N := some 16) rfl rfl HT_ ?_
             refine pX (i := 5) (N := some 17) rfl rfl HT_ ?_
             refine pX (i := 6) (N := some 18) rfl rfl HT_ ?_
             refine pX (i := 7) (N := some 19) rfl rfl HT_ ?_
             refine pX (i := 8) (N := some 20) rfl rfl HT_ ?_
             refine pX (i := 9) (N := some 21) rfl rfl HT_ ?_
             refine pX (i := 10) (N := some 22) rfl rfl HT_ ?_
             refine pX (i := 11) (N := some 23) rfl rfl HT_ ?_
             refine pX (i := 12) (N := some 24) rfl rfl HT_ ?_
             refine pX (i := 14) (N := some 26) rfl rfl HT_ ?_
             refine tX (i := 13) (N := some 25) rfl rfl HT_ HW_ hHeld (Or.inl ⟨by rfl, by rintro w' ⟨s0, s1, s2, s3, s4, s5⟩; go_simp; with_reducible rfl⟩) ?_
             refine tX (i := 15) (N := some 27) rfl rfl HT_ HW_ hHeld (Or.inl ⟨by rfl, by rintro w' ⟨s0, s1, s2, s3, s4, s5⟩; go_simp; with_reducible rfl⟩) ?_
             refine pX (i := 16) (N := some 28) rfl rfl HT_ ?_
             refine pX (i := 17) (N := some 29) rfl rfl HT_ ?_
             refine pX (i := 18) (N := some 30) rfl rfl HT_ ?_
             refine pX (i := 19) (N := some 31) rfl rfl HT_ ?_
             refine pX (i := 20) (N := some 32) rfl rfl HT_ ?_
             refine tX (i := 21) (N := some 33) rfl rfl HT_ HW_ hHeld (Or.inl ⟨by rfl, by rintro w' ⟨s0, s1, s2, s3, s4, s5⟩; go_simp; with_reducible rfl⟩) ?_
             refine oX (i := 22) (N := some 34) rfl rfl HT_ (fun K hK => ?_)
             refine gS Try.func46 #[.agg #[.int .i64 ((rd_T60 l0 x7_1).f1.f0), .int .i64 ((rd_T60 l0 x7_1).f1.f1)]] ?_
             with_reducible refine (rat_Valid.calls k1 ((rd_T60 l0 x7_1).f1.f0) ((rd_T60 l0 x7_1).f1.f1) true _ A16.out).mono ?_
             rintro e w23 ⟨rfl, hb⟩
             refine ⟨_, rfl, ?_⟩
             replace BK102 := bB BK102 hb; replace HB := sB HB hb; (try clear hb); (try clear hb2); (try clear hk); (try clear hi)
             refine hK.out _ _ ⟨cE BK102 0, cE BK102 1, cE BK102 2, ((HB.out.cell (World.block_lt_of_cell? w _ hw104_0)).trans hw104_0), ((HB.out.cell (World.block_lt_of_cell? w _ hw104_1)).trans hw104_1), ((HB.out.cell (World.block_lt_of_cell? w _ hw104_2)).trans hw104_2)⟩ (fun hHeld => ?_)
             clear hK K
             refine nX (some 34) ?_
             refine pX (i := 23) (N := some 35) rfl rfl HT_ ?_
             refine pX (i := 24) (N := some 36) rfl rfl HT_ ?_
             refine pX (i := 25) (N := some 37) rfl rfl HT_ ?_
             refine pX (i := 26) (N := some 38) rfl rfl HT_ ?_
             refine pX (i := 27) (N := some 39) rfl rfl HT_ ?_
             refine tX (i := 28) (N := some 40) rfl rfl HT_ HW_ hHeld (Or.inl ⟨by rfl, by rintro w' ⟨s0, s1, s2, s3, s4, s5⟩; go_simp; with_reducible rfl⟩) ?_
             refine pX (i := 29) (N := some 41) rfl rfl HT_ ?_
             refine pX (i := 30) (N := some 42) rfl rfl HT_ ?_
             refine done_ (done_of HT_.out (by kernel_rfl)) ?_
             try go_wp2
             go_ret
             exact ⟨by first | rfl | (simp [errW_none, errW_some] <;> rfl) | (simp only [← hji8]; first | rfl | (simp [errW_none, errW_some] <;> rfl)) | (simp [*, errW_none, errW_some] <;> rfl), sD HB⟩
            ·rw [if_neg c18] at H
             have c18b0 : decide (((rd_T60 l0 x7_1).f1.f0) < 0) = false := decide_eq_false c18
             clear c18; have H' := aM H; clear H
             have p101 : 0 ≤ (x7_1 : Int) := of_decide_eq_true (by first | (with_reducible assumption) | assumption)
             have q101 : x7_1 < (l0.length : Int) := of_decide_eq_true (by first | (with_reducible assumption) | assumption)
             obtain ⟨ad101, e101, hx101_0, hx101_1, hx101_2⟩ := at_T60 HR0.out x7_1 p101 q101
             cases e101
             replace hx101_0 := (HB.out.cell (World.block_lt_of_cell? w _ hx101_0)).trans hx101_0; replace hx101_1 := (HB.out.cell (World.block_lt_of_cell? w _ hx101_1)).trans hx101_1; replace hx101_2 := (HB.out.cell (World.block_lt_of_cell? w _ hx101_2)).trans hx101_2; replace p101 := eq_true p101; replace q101 := eq_true q101
             try go_wp2_with (first | ((with_reducible refine gate_dst (N := 4) rfl ?_); refine bE (N := 4) (cs := #[.int .i64 0, .int .i64 0, .int .i64 0]) (t := 60) ?_; intro gb102 hg w24 hbox hb; have BK102 := aM (hbox); have GW102 := gE hg HB; have GE102 := gE hg HB; replace HB := sB HB hb; clear hb hbox hg; obtain ⟨hcz25_0, hcz25_1, hcz25_2, hfz25_0, hfz25_1, hfz25_2⟩ := cZ3 BK102))
             have n0_ : Aside0 ((((w24.setCell ⟨gb102, 0, none⟩ (.int .i64 ((rd_T60 l0 x7_1).f0))).setCell ⟨gb102, 1, none⟩ (.int .i64 ((rd_T60 l0 x7_1).f1.f0))).setCell ⟨gb102, 2, none⟩ (.int .i64 ((rd_T60 l0 x7_1).f1.f1))).heap[gb102]? = some (.cells #[.int .i64 ((rd_T60 l0 x7_1).f0), .int .i64 ((rd_T60 l0 x7_1).f1.f0), .int .i64 ((rd_T60 l0 x7_1).f1.f1)] 60 (0, 0))) := ⟨by refine bM ?_; refine blk_put (cs := #[.int .i64 ((rd_T60 l0 x7_1).f0), .int .i64 ((rd_T60 l0 x7_1).f1.f0), .int .i64 0]) ?_ 2 _ rfl; refine bM ?_; refine blk_put (cs := #[.int .i64 ((rd_T60 l0 x7_1).f0), .int .i64 0, .int .i64 0]) ?_ 1 _ rfl; refine bM ?_; refine blk_put (cs := #[.int .i64 0, .int .i64 0, .int .i64 0]) ?_ 0 _ rfl; exact bD BK102⟩
             have n1_ : Aside0 (Below w.heap.size w (((w24.setCell ⟨gb102, 0, none⟩ (.int .i64 ((rd_T60 l0 x7_1).f0))).setCell ⟨gb102, 1, none⟩ (.int .i64 ((rd_T60 l0 x7_1).f1.f0))).setCell ⟨gb102, 2, none⟩ (.int .i64 ((rd_T60 l0 x7_1).f1.f1)))) := ⟨sD HB⟩
             (try clear BK102); (try clear HB)
             generalize (((w24.setCell ⟨gb102, 0, none⟩ (.int .i64 ((rd_T60 l0 x7_1).f0))).setCell ⟨gb102, 1, none⟩ (.int .i64 ((rd_T60 l0 x7_1).f1.f0))).setCell ⟨gb102, 2, none⟩ (.int .i64 ((rd_T60 l0 x7_1).f1.f1))) = w26 at n0_ n1_ ⊢
             have BK102 := n0_; have HB := n1_; clear n0_ n1_; replace BK102 := aM (blk_drew BK102.out); replace HB := aM (below_drew1 HB.out)
             have p104 : 0 ≤ ((ji8) : Int) := of_decide_eq_true (by first | (with_reducible assumption) | assumption)
             have q104 : (ji8) < (l0.length : Int) := of_decide_eq_true (by first | (with_reducible assumption) | assumption)
             obtain ⟨ad104, e104, hx104_0, hx104_1, hx104_2⟩ := at_T60 HR0.out (ji8) p104 q104
             have hw104_2 := hx104_2; have hw104_1 := hx104_1; have hw104_0 := hx104_0
             obtain rfl : ad101 = ad104 := (by injection e104)
             replace hx104_0 := (HB.out.cell (World.block_lt_of_cell? w _ hx104_0)).trans hx104_0; replace hx104_1 := (HB.out.cell (World.block_lt_of_cell? w _ hx104_1)).trans hx104_1; replace hx104_2 := (HB.out.cell (World.block_lt_of_cell? w _ hx104_2)).trans hx104_2; replace p104 := eq_true p104; replace q104 := eq_true q104
             refine start_ (n := 31) (S := fun w' => w'.cell? ⟨gb102, 0, none⟩ = some (.int .i64 ((rd_T60 l0 x7_1).f0)) ∧ w'.cell? ⟨gb102, 1, none⟩ = some (.int .i64 ((rd_T60 l0 x7_1).f1.f0)) ∧ w'.cell? ⟨gb102, 2, none⟩ = some (.int .i64 ((rd_T60 l0 x7_1).f1.f1)) ∧ w'.cell? (ad101.add (((ji8)).toNat * 3)) = some (.int .i64 ((rd_T60 l0 (ji8)).f0)) ∧ w'.cell? ⟨(ad101.add (((ji8)).toNat * 3)).block, (ad101.add (((ji8)).toNat * 3)).off + 1, none⟩ = some (.int .i64 ((rd_T60 l0 (ji8)).f1.f0)) ∧ w'.cell? ⟨(ad101.add (((ji8)).toNat * 3)).block, (ad101.add (((ji8)).toNat * 3)).off + 2, none⟩ = some (.int .i64 ((rd_T60 l0 (ji8)).f1.f1))) (ds := []) #[false, false, false, false, false, false, false, false, false, false, false, false, false, false, false, false, false, false, false, false, false, false, false, false, false, false, false, false, false, false, false] (by kernel_rfl) rfl rfl ⟨cE BK102 0, cE BK102 1, cE BK102 2, ((HB.out.cell (World.block_lt_of_cell? w _ hw104_0)).trans hw104_0), ((HB.out.cell (World.block_lt_of_cell? w _ hw104_1)).trans hw104_1), ((HB.out.cell (World.block_lt_of_cell? w _ hw104_2)).trans hw104_2)⟩ (fun hHeld => ?_); refine with_tabW price_right.tab4 price_right.bits4 (fun HT_ HW_ => ?_)
             generalize w26.drew = w27 at BK102 HB hx104_0 hx104_1 hx104_2 hHeld ⊢
             refine pX (i := 0) (N := some 12) rfl rfl HT_ ?_
             refine tX (i := 1) (N := some 13) rfl rfl HT_ HW_ hHeld (Or.inl ⟨by rfl, by rintro w' ⟨s0, s1, s2, s3, s4, s5⟩; go_simp; with_reducible rfl⟩) ?_
             refine oX (i := 2) (N := some 14) rfl rfl HT_ (fun K hK => ?_)
             refine gS Try.func95 #[.int .i64 ((rd_T60 l0 x7_1).f0)] ?_
             with_reducible refine (price_firm.calls ((rd_T60 l0 x7_1).f0) true _ A5.out).mono ?_
             rintro e w' ⟨rfl, ⟨nd, rfl⟩⟩
             refine ⟨_, rfl, ?_⟩
             refine hK.out _ _ ⟨cE BK102 0, cE BK102 1, cE BK102 2, ((HB.out.cell (World.block_lt_of_cell? w _ hw104_0)).trans hw104_0), ((HB.out.cell (World.block_lt_of_cell? w _ hw104_1)).trans hw104_1), ((HB.out.cell (World.block_lt_of_cell? w _ hw104_2)).trans hw104_2)⟩ (fun hHeld => ?_)
             clear hK K
             refine nX (some 14) ?_
             refine pX (i := 3) (N := some 15) rfl rfl HT_ ?_
             refine pX (i := 4) (N := some 16) rfl rfl HT_ ?_
             refine pX (i := 5) (N := some 17) rfl rfl HT_ ?_
             refine pX (i := 6) (N := some 18) rfl rfl HT_ ?_
             refine pX (i := 7) (N := some 19) rfl rfl HT_ ?_
             refine pX (i := 8) (N := some 20) rfl rfl HT_ ?_
             refine pX (i := 9) (N := some 21) rfl rfl HT_ ?_
             refine pX (i := 10) (N := some 22) rfl rfl HT_ ?_
             refine pX (i := 11) (N := some 23) rfl rfl HT_ ?_
             refine pX (i := 12) (N := some 24) rfl rfl HT_ ?_
             refine pX (i := 14) (N := some 26) rfl rfl HT_ ?_
             refine tX (i := 13) (N := some 25) rfl rfl HT_ HW_ hHeld (Or.inl ⟨by rfl, by rintro w' ⟨s0, s1, s2, s3, s4, s5⟩; go_simp; with_reducible rfl⟩) ?_
             refine tX (i := 15) (N := some 27) rfl rfl HT_ HW_ hHeld (Or.inl ⟨by rfl, by rintro w' ⟨s0, s1, s2, s3, s4, s5⟩; go_simp; with_reducible rfl⟩) ?_
             refine pX (i := 16) (N := some 28) rfl rfl HT_ ?_
             refine pX (i := 17) (N := some 29) rfl rfl HT_ ?_
             refine pX (i := 18) (N := some 30) rfl rfl HT_ ?_
             refine pX (i := 19) (N := some 31) rfl rfl HT_ ?_
             refine pX (i := 20) (N := some 32) rfl rfl HT_ ?_
             refine tX (i := 21) (N := some 33) rfl rfl HT_ HW_ hHeld (Or.inl ⟨by rfl, by rintro w' ⟨s0, s1, s2, s3, s4, s5⟩; go_simp; with_reducible rfl⟩) ?_
             refine oX (i := 22) (N := some 34) rfl rfl HT_ (fun K hK => ?_)
             refine gS Try.func46 #[.agg #[.int .i64 ((rd_T60 l0 x7_1).f1.f0), .int .i64 ((rd_T60 l0 x7_1).f1.f1)]] ?_
             with_reducible refine (rat_Valid.calls k1 ((rd_T60 l0 x7_1).f1.f0) ((rd_T60 l0 x7_1).f1.f1) true _ A16.out).mono ?_
             rintro e w28 ⟨rfl, hb⟩
             refine ⟨_, rfl, ?_⟩
             replace BK102 := bB BK102 hb; replace HB := sB HB hb; (try clear hb); (try clear hb2); (try clear hk); (try clear hi)
             refine hK.out _ _ ⟨cE BK102 0, cE BK102 1, cE BK102 2, ((HB.out.cell (World.block_lt_of_cell? w _ hw104_0)).trans hw104_0), ((HB.out.cell (World.block_lt_of_cell? w _ hw104_1)).trans hw104_1), ((HB.out.cell (World.block_lt_of_cell? w _ hw104_2)).trans hw104_2)⟩ (fun hHeld => ?_)
             clear hK K
             refine nX (some 34) ?_
             refine pX (i := 23) (N := some 35) rfl rfl HT_ ?_
             refine pX (i := 24) (N := some 36) rfl rfl HT_ ?_
             refine pX (i := 25) (N := some 37) rfl rfl HT_ ?_
             refine pX (i := 26) (N := some 38) rfl rfl HT_ ?_
             refine pX (i := 27) (N := some 39) rfl rfl HT_ ?_
             refine tX (i := 28) (N := some 40) rfl rfl HT_ HW_ hHeld (Or.inl ⟨by rfl, by rintro w' ⟨s0, s1, s2, s3, s4, s5⟩; go_simp; with_reducible rfl⟩) ?_
             refine pX (i := 29) (N := some 41) rfl rfl HT_ ?_
             refine pX (i := 30) (N := some 42) rfl rfl HT_ ?_
             refine done_ (done_of HT_.out (by kernel_rfl)) ?_
             try go_wp2
             go_roundg k1
             case measure => have := HK1.out; omega
             case rel => exact ⟨(wrap64 (x7_1 + 1)), (by first | rfl | (simp; done) | (simp [*]; done)), H', ⟨by have := HK1.out; omega⟩, ⟨sD HB⟩⟩
           ·replace c17 := Bool.eq_false_iff.mpr c17
            subst c17
            have H1 : (some false) = some r := by rw [if_neg (show ¬ (false = true) by decide)] at H; exact H
            clear H; have H := H1; clear H1
            obtain rfl := Option.some.inj H
            have p101 : 0 ≤ (x7_1 : Int) := of_decide_eq_true (by first | (with_reducible assumption) | assumption)
            have q101 : x7_1 < (l0.length : Int) := of_decide_eq_true (by first | (with_reducible assumption) | assumption)
            obtain ⟨ad101, e101, hx101_0, hx101_1, hx101_2⟩ := at_T60 HR0.out x7_1 p101 q101
            cases e101
            replace hx101_0 := (HB.out.cell (World.block_lt_of_cell? w _ hx101_0)).trans hx101_0; replace hx101_1 := (HB.out.cell (World.block_lt_of_cell? w _ hx101_1)).trans hx101_1; replace hx101_2 := (HB.out.cell (World.block_lt_of_cell? w _ hx101_2)).trans hx101_2; replace p101 := eq_true p101; replace q101 := eq_true q101
            try go_wp2_with (first | ((with_reducible refine gate_dst (N := 4) rfl ?_); refine bE (N := 4) (cs := #[.int .i64 0, .int .i64 0, .int .i64 0]) (t := 60) ?_; intro gb102 hg w29 hbox hb; have BK102 := aM (hbox); have GW102 := gE hg HB; have GE102 := gE hg HB; replace HB := sB HB hb; clear hb hbox hg; obtain ⟨hcz30_0, hcz30_1, hcz30_2, hfz30_0, hfz30_1, hfz30_2⟩ := cZ3 BK102))
            have n0_ : Aside0 ((((w29.setCell ⟨gb102, 0, none⟩ (.int .i64 ((rd_T60 l0 x7_1).f0))).setCell ⟨gb102, 1, none⟩ (.int .i64 ((rd_T60 l0 x7_1).f1.f0))).setCell ⟨gb102, 2, none⟩ (.int .i64 ((rd_T60 l0 x7_1).f1.f1))).heap[gb102]? = some (.cells #[.int .i64 ((rd_T60 l0 x7_1).f0), .int .i64 ((rd_T60 l0 x7_1).f1.f0), .int .i64 ((rd_T60 l0 x7_1).f1.f1)] 60 (0, 0))) := ⟨by refine bM ?_; refine blk_put (cs := #[.int .i64 ((rd_T60 l0 x7_1).f0), .int .i64 ((rd_T60 l0 x7_1).f1.f0), .int .i64 0]) ?_ 2 _ rfl; refine bM ?_; refine blk_put (cs := #[.int .i64 ((rd_T60 l0 x7_1).f0), .int .i64 0, .int .i64 0]) ?_ 1 _ rfl; refine bM ?_; refine blk_put (cs := #[.int .i64 0, .int .i64 0, .int .i64 0]) ?_ 0 _ rfl; exact bD BK102⟩
            have n1_ : Aside0 (Below w.heap.size w (((w29.setCell ⟨gb102, 0, none⟩ (.int .i64 ((rd_T60 l0 x7_1).f0))).setCell ⟨gb102, 1, none⟩ (.int .i64 ((rd_T60 l0 x7_1).f1.f0))).setCell ⟨gb102, 2, none⟩ (.int .i64 ((rd_T60 l0 x7_1).f1.f1)))) := ⟨sD HB⟩
            (try clear BK102); (try clear HB)
            generalize (((w29.setCell ⟨gb102, 0, none⟩ (.int .i64 ((rd_T60 l0 x7_1).f0))).setCell ⟨gb102, 1, none⟩ (.int .i64 ((rd_T60 l0 x7_1).f1.f0))).setCell ⟨gb102, 2, none⟩ (.int .i64 ((rd_T60 l0 x7_1).f1.f1))) = w31 at n0_ n1_ ⊢
            have BK102 := n0_; have HB := n1_; clear n0_ n1_; replace BK102 := aM (blk_drew BK102.out); replace HB := aM (below_drew1 HB.out)
            have p104 : 0 ≤ ((ji8) : Int) := of_decide_eq_true (by first | (with_reducible assumption) | assumption)
            have q104 : (ji8) < (l0.length : Int) := of_decide_eq_true (by first | (with_reducible assumption) | assumption)
            obtain ⟨ad104, e104, hx104_0, hx104_1, hx104_2⟩ := at_T60 HR0.out (ji8) p104 q104
            have hw104_2 := hx104_2; have hw104_1 := hx104_1; have hw104_0 := hx104_0
            obtain rfl : ad101 = ad104 := (by injection e104)
            replace hx104_0 := (HB.out.cell (World.block_lt_of_cell? w _ hx104_0)).trans hx104_0; replace hx104_1 := (HB.out.cell (World.block_lt_of_cell? w _ hx104_1)).trans hx104_1; replace hx104_2 := (HB.out.cell (World.block_lt_of_cell? w _ hx104_2)).trans hx104_2; replace p104 := eq_true p104; replace q104 := eq_true q104
            refine start_ (n := 31) (S := fun w' => w'.cell? ⟨gb102, 0, none⟩ = some (.int .i64 ((rd_T60 l0 x7_1).f0)) ∧ w'.cell? ⟨gb102, 1, none⟩ = some (.int .i64 ((rd_T60 l0 x7_1).f1.f0)) ∧ w'.cell? ⟨gb102, 2, none⟩ = some (.int .i64 ((rd_T60 l0 x7_1).f1.f1)) ∧ w'.cell? (ad101.add (((ji8)).toNat * 3)) = some (.int .i64 ((rd_T60 l0 (ji8)).f0)) ∧ w'.cell? ⟨(ad101.add (((ji8)).toNat * 3)).block, (ad101.add (((ji8)).toNat * 3)).off + 1, none⟩ = some (.int .i64 ((rd_T60 l0 (ji8)).f1.f0)) ∧ w'.cell? ⟨(ad101.add (((ji8)).toNat * 3)).block, (ad101.add (((ji8)).toNat * 3)).off + 2, none⟩ = some (.int .i64 ((rd_T60 l0 (ji8)).f1.f1))) (ds := []) #[false, false, false, false, false, false, false, false, false, false, false, false, false, false, false, false, false, false, false, false, false, false, false, false, false, false, false, false, false, false, false] (by kernel_rfl) rfl rfl ⟨cE BK102 0, cE BK102 1, cE BK102 2, ((HB.out.cell (World.block_lt_of_cell? w _ hw104_0)).trans hw104_0), ((HB.out.cell (World.block_lt_of_cell? w _ hw104_1)).trans hw104_1), ((HB.out.cell (World.block_lt_of_cell? w _ hw104_2)).trans hw104_2)⟩ (fun hHeld => ?_); refine with_tabW price_right.tab4 price_right.bits4 (fun HT_ HW_ => ?_)
            generalize w31.drew = w32 at BK102 HB hx104_0 hx104_1 hx104_2 hHeld ⊢
            refine pX (i := 0) (N := some 12) rfl rfl HT_ ?_
            refine tX (i := 1) (N := some 13) rfl rfl HT_ HW_ hHeld (Or.inl ⟨by rfl, by rintro w' ⟨s0, s1, s2, s3, s4, s5⟩; go_simp; with_reducible rfl⟩) ?_
            refine oX (i := 2) (N := some 14) rfl rfl HT_ (fun K hK => ?_)
            refine gS Try.func95 #[.int .i64 ((rd_T60 l0 x7_1).f0)] ?_
            with_reducible refine (price_firm.calls ((rd_T60 l0 x7_1).f0) true _ A5.out).mono ?_
            rintro e w' ⟨rfl, ⟨nd, rfl⟩⟩
            refine ⟨_, rfl, ?_⟩
            refine hK.out _ _ ⟨cE BK102 0, cE BK102 1, cE BK102 2, ((HB.out.cell (World.block_lt_of_cell? w _ hw104_0)).trans hw104_0), ((HB.out.cell (World.block_lt_of_cell? w _ hw104_1)).trans hw104_1), ((HB.out.cell (World.block_lt_of_cell? w _ hw104_2)).trans hw104_2)⟩ (fun hHeld => ?_)
            clear hK K
            refine nX (some 14) ?_
            refine pX (i := 3) (N := some 15) rfl rfl HT_ ?_
            refine pX (i := 4) (N := some 16) rfl rfl HT_ ?_
            refine pX (i := 5) (N := some 17) rfl rfl HT_ ?_
            refine pX (i := 6) (N := some 18) rfl rfl HT_ ?_
            refine pX (i := 7) (N := some 19) rfl rfl HT_ ?_
            refine pX (i := 8) (N := some 20) rfl rfl HT_ ?_
            refine pX (i := 9) (N := some 21) rfl rfl HT_ ?_
            refine pX (i := 10) (N := some 22) rfl rfl HT_ ?_
            refine pX (i := 11) (N := some 23) rfl rfl HT_ ?_
            refine pX (i := 12) (N := some 24) rfl rfl HT_ ?_
            refine pX (i := 14) (N := some 26) rfl rfl HT_ ?_
            refine tX (i := 13) (N := some 25) rfl rfl HT_ HW_ hHeld (Or.inl ⟨by rfl, by rintro w' ⟨s0, s1, s2, s3, s4, s5⟩; go_simp; with_reducible rfl⟩) ?_
            refine tX (i := 15) (N := some 27) rfl rfl HT_ HW_ hHeld (Or.inl ⟨by rfl, by rintro w' ⟨s0, s1, s2, s3, s4, s5⟩; go_simp; with_reducible rfl⟩) ?_
            refine pX (i := 16) (N := some 28) rfl rfl HT_ ?_
            refine pX (i := 17) (N := some 29) rfl rfl HT_ ?_
            refine pX (i := 18) (N := some 30) rfl rfl HT_ ?_
            refine pX (i := 19) (N := some 31) rfl rfl HT_ ?_
            refine pX (i := 20) (N := some 32) rfl rfl HT_ ?_
            refine tX (i := 21) (N := some 33) rfl rfl HT_ HW_ hHeld (Or.inl ⟨by rfl, by rintro w' ⟨s0, s1, s2, s3, s4, s5⟩; go_simp; with_reducible rfl⟩) ?_
            refine oX (i := 22) (N := some 34) rfl rfl HT_ (fun K hK => ?_)
            refine gS Try.func46 #[.agg #[.int .i64 ((rd_T60 l0 x7_1).f1.f0), .int .i64 ((rd_T60 l0 x7_1).f1.f1)]] ?_
            with_reducible refine (rat_Valid.calls k1 ((rd_T60 l0 x7_1).f1.f0) ((rd_T60 l0 x7_1).f1.f1) false _ A16.out).mono ?_
            rintro e w33 ⟨rfl, hb⟩
            refine ⟨_, rfl, ?_⟩
            replace BK102 := bB BK102 hb; replace HB := sB HB hb; (try clear hb); (try clear hb2); (try clear hk); (try clear hi)
            refine hK.out _ _ ⟨cE BK102 0, cE BK102 1, cE BK102 2, ((HB.out.cell (World.block_lt_of_cell? w _ hw104_0)).trans hw104_0), ((HB.out.cell (World.block_lt_of_cell? w _ hw104_1)).trans hw104_1), ((HB.out.cell (World.block_lt_of_cell? w _ hw104_2)).trans hw104_2)⟩ (fun hHeld => ?_)
            clear hK K
            refine nX (some 34) ?_
            refine pX (i := 23) (N := some 35) rfl rfl HT_ ?_
            refine pX (i := 24) (N := some 36) rfl rfl HT_ ?_
            refine pX (i := 25) (N := some 37) rfl rfl HT_ ?_
            refine pU (i := 26) (N := some 38) rfl rfl HT_ ?_
            refine pU (i := 27) (N := some 39) rfl rfl HT_ ?_
            refine pU (i := 28) (N := some 40) rfl rfl HT_ ?_
            refine pU (i := 29) (N := some 41) rfl rfl HT_ ?_
            refine pX (i := 30) (N := some 42) rfl rfl HT_ ?_
            refine done_ (done_of HT_.out (by kernel_rfl)) ?_
            try go_wp2
            go_ret
            exact ⟨by first | rfl | (simp [errW_none, errW_some] <;> rfl) | (simp only [← hji8]; first | rfl | (simp [errW_none, errW_some] <;> rfl)) | (simp [*, errW_none, errW_some] <;> rfl), sD HB⟩
         ·rw [if_neg c10] at H
          exact absurd H (by simp)
        ·rw [if_neg c9] at H
         exact absurd H (by simp)
       ·rw [if_neg c7] at H
        have c7b0 : decide (0 < x7_1) = false := decide_eq_false c7
        clear c7; replace H := Option.bind_eq_some_iff.mp H
        obtain ⟨t106, A340, H⟩ := H
        replace H : (if t106 = true then (if ((rd_T60 l0 x7_1).f1.f0) < 0 then (some false) else (price_right.l0 k1 l0 l0 (l0.length : Int) (wrap64 (x7_1 + 1)))) else (some false)) = some r := H
        have A34 := aM A340; clear A340
        by_cases c35 : t106 = true
        ·subst c35
         have H1 : (if ((rd_T60 l0 x7_1).f1.f0) < 0 then (some false) else (price_right.l0 k1 l0 l0 (l0.length : Int) (wrap64 (x7_1 + 1)))) = some r := by rw [if_pos rfl] at H; exact H
         clear H; have H := H1; clear H1
         by_cases c36 : ((rd_T60 l0 x7_1).f1.f0) < 0
         ·rw [if_pos c36] at H
          have c36b0 : decide (((rd_T60 l0 x7_1).f1.f0) < 0) = true := decide_eq_true c36
          clear c36
          obtain rfl := Option.some.inj H
          have p101 : 0 ≤ (x7_1 : Int) := of_decide_eq_true (by first | (with_reducible assumption) | assumption)
          have q101 : x7_1 < (l0.length : Int) := of_decide_eq_true (by first | (with_reducible assumption) | assumption)
          obtain ⟨ad101, e101, hx101_0, hx101_1, hx101_2⟩ := at_T60 HR0.out x7_1 p101 q101
          cases e101
          replace hx101_0 := (HB.out.cell (World.block_lt_of_cell? w _ hx101_0)).trans hx101_0; replace hx101_1 := (HB.out.cell (World.block_lt_of_cell? w _ hx101_1)).trans hx101_1; replace hx101_2 := (HB.out.cell (World.block_lt_of_cell? w _ hx101_2)).trans hx101_2; replace p101 := eq_true p101; replace q101 := eq_true q101
          try go_wp2_with (first | ((with_reducible refine gate_dst (N := 4) rfl ?_); refine bE (N := 4) (cs := #[.int .i64 0, .int .i64 0, .int .i64 0]) (t := 60) ?_; intro gb102 hg w37 hbox hb; have BK102 := aM (hbox); have GW102 := gE hg HB; have GE102 := gE hg HB; replace HB := sB HB hb; clear hb hbox hg; obtain ⟨hcz38_0, hcz38_1, hcz38_2, hfz38_0, hfz38_1, hfz38_2⟩ := cZ3 BK102))
          have n0_ : Aside0 ((((w37.setCell ⟨gb102, 0, none⟩ (.int .i64 ((rd_T60 l0 x7_1).f0))).setCell ⟨gb102, 1, none⟩ (.int .i64 ((rd_T60 l0 x7_1).f1.f0))).setCell ⟨gb102, 2, none⟩ (.int .i64 ((rd_T60 l0 x7_1).f1.f1))).heap[gb102]? = some (.cells #[.int .i64 ((rd_T60 l0 x7_1).f0), .int .i64 ((rd_T60 l0 x7_1).f1.f0), .int .i64 ((rd_T60 l0 x7_1).f1.f1)] 60 (0, 0))) := ⟨by refine bM ?_; refine blk_put (cs := #[.int .i64 ((rd_T60 l0 x7_1).f0), .int .i64 ((rd_T60 l0 x7_1).f1.f0), .int .i64 0]) ?_ 2 _ rfl; refine bM ?_; refine blk_put (cs := #[.int .i64 ((rd_T60 l0 x7_1).f0), .int .i64 0, .int .i64 0]) ?_ 1 _ rfl; refine bM ?_; refine blk_put (cs := #[.int .i64 0, .int .i64 0, .int .i64 0]) ?_ 0 _ rfl; exact bD BK102⟩
          have n1_ : Aside0 (Below w.heap.size w (((w37.setCell ⟨gb102, 0, none⟩ (.int .i64 ((rd_T60 l0 x7_1).f0))).setCell ⟨gb102, 1, none⟩ (.int .i64 ((rd_T60 l0 x7_1).f1.f0))).setCell ⟨gb102, 2, none⟩ (.int .i64 ((rd_T60 l0 x7_1).f1.f1)))) := ⟨sD HB⟩
          (try clear BK102); (try clear HB)
          generalize (((w37.setCell ⟨gb102, 0, none⟩ (.int .i64 ((rd_T60 l0 x7_1).f0))).setCell ⟨gb102, 1, none⟩ (.int .i64 ((rd_T60 l0 x7_1).f1.f0))).setCell ⟨gb102, 2, none⟩ (.int .i64 ((rd_T60 l0 x7_1).f1.f1))) = w39 at n0_ n1_ ⊢
          have BK102 := n0_; have HB := n1_; clear n0_ n1_; replace BK102 := aM (blk_drew BK102.out); replace HB := aM (below_drew1 HB.out)
          refine start_ (n := 31) (S := fun w' => w'.cell? ⟨gb102, 0, none⟩ = some (.int .i64 ((rd_T60 l0 x7_1).f0)) ∧ w'.cell? ⟨gb102, 1, none⟩ = some (.int .i64 ((rd_T60 l0 x7_1).f1.f0)) ∧ w'.cell? ⟨gb102, 2, none⟩ = some (.int .i64 ((rd_T60 l0 x7_1).f1.f1))) (ds := []) #[false, false, false, false, false, false, false, false, false, false, false, false, false, false, false, false, false, false, false, false, false, false, false, false, false, false, false, false, false, false, false] (by kernel_rfl) rfl rfl ⟨cE BK102 0, cE BK102 1, cE BK102 2⟩ (fun hHeld => ?_); refine with_tabW price_right.tab4 price_right.bits4 (fun HT_ HW_ => ?_)
          generalize w39.drew = w40 at BK102 HB hHeld ⊢
          refine pX (i := 0) (N := some 12) rfl rfl HT_ ?_
          refine tX (i := 1) (N := some 13) rfl rfl HT_ HW_ hHeld (Or.inl ⟨by rfl, by rintro w' ⟨s0, s1, s2⟩; go_simp; with_reducible rfl⟩) ?_
          refine oX (i := 2) (N := some 14) rfl rfl HT_ (fun K hK => ?_)
          refine gS Try.func95 #[.int .i64 ((rd_T60 l0 x7_1).f0)] ?_
          with_reducible refine (price_firm.calls ((rd_T60 l0 x7_1).f0) true _ A5.out).mono ?_
          rintro e w' ⟨rfl, ⟨nd, rfl⟩⟩
          refine ⟨_, rfl, ?_⟩
          refine hK.out _ _ ⟨cE BK102 0, cE BK102 1, cE BK102 2⟩ (fun hHeld => ?_)
          clear hK K
          refine nX (some 14) ?_
          refine pX (i := 3) (N := some 15) rfl rfl HT_ ?_
          refine pX (i := 4) (N := some 16) rfl rfl HT_ ?_
          refine pX (i := 5) (N := some 17) rfl rfl HT_ ?_
          refine pX (i := 6) (N := some 18) rfl rfl HT_ ?_
          refine pX (i := 7) (N := some 19) rfl rfl HT_ ?_
          refine pU (i := 8) (N := some 20) rfl rfl HT_ ?_
          refine pU (i := 9) (N := some 21) rfl rfl HT_ ?_
          refine pU (i := 10) (N := some 22) rfl rfl HT_ ?_
          refine pU (i := 11) (N := some 23) rfl rfl HT_ ?_
          refine pU (i := 12) (N := some 24) rfl rfl HT_ ?_
          refine pU (i := 13) (N := some 25) rfl rfl HT_ ?_
          refine pU (i := 14) (N := some 26) rfl rfl HT_ ?_
          refine pU (i := 15) (N := some 27) rfl rfl HT_ ?_
          refine pU (i := 16) (N := some 28) rfl rfl HT_ ?_
          refine pX (i := 17) (N := some 29) rfl rfl HT_ ?_
          refine pX (i := 18) (N := some 30) rfl rfl HT_ ?_
          refine pX (i := 19) (N := some 31) rfl rfl HT_ ?_
          refine pX (i := 20) (N := some 32) rfl rfl HT_ ?_
          refine tX (i := 21) (N := some 33) rfl rfl HT_ HW_ hHeld (Or.inl ⟨by rfl, by rintro w' ⟨s0, s1, s2⟩; go_simp; with_reducible rfl⟩) ?_
          refine oX (i := 22) (N := some 34) rfl rfl HT_ (fun K hK => ?_)
          refine gS Try.func46 #[.agg #[.int .i64 ((rd_T60 l0 x7_1).f1.f0), .int .i64 ((rd_T60 l0 x7_1).f1.f1)]] ?_
          with_reducible refine (rat_Valid.calls k1 ((rd_T60 l0 x7_1).f1.f0) ((rd_T60 l0 x7_1).f1.f1) true _ A34.out).mono ?_
          rintro e w41 ⟨rfl, hb⟩
          refine ⟨_, rfl, ?_⟩
          replace BK102 := bB BK102 hb; replace HB := sB HB hb; (try clear hb); (try clear hb2); (try clear hk); (try clear hi)
          refine hK.out _ _ ⟨cE BK102 0, cE BK102 1, cE BK102 2⟩ (fun hHeld => ?_)
          clear hK K
          refine nX (some 34) ?_
          refine pX (i := 23) (N := some 35) rfl rfl HT_ ?_
          refine pX (i := 24) (N := some 36) rfl rfl HT_ ?_
          refine pX (i := 25) (N := some 37) rfl rfl HT_ ?_
          refine pX (i := 26) (N := some 38) rfl rfl HT_ ?_
          refine pX (i := 27) (N := some 39) rfl rfl HT_ ?_
          refine tX (i := 28) (N := some 40) rfl rfl HT_ HW_ hHeld (Or.inl ⟨by rfl, by rintro w' ⟨s0, s1, s2⟩; go_simp; with_reducible rfl⟩) ?_
          refine pX (i := 29) (N := some 41) rfl rfl HT_ ?_
          refine pX (i := 30) (N := some 42) rfl rfl HT_ ?_
          refine done_ (done_of HT_.out (by kernel_rfl)) ?_
          try go_wp2
          go_ret
          exact ⟨by first | rfl | (simp [errW_none, errW_some] <;> rfl) | (simp [*, errW_none, errW_some] <;> rfl), sD HB⟩
         ·rw [if_neg c36] at H
          have c36b0 : decide (((rd_T60 l0 x7_1).f1.f0) < 0) = false := decide_eq_false c36
          clear c36; have H' := aM H; clear H
          have p101 : 0 ≤ (x7_1 : Int) := of_decide_eq_true (by first | (with_reducible assumption) | assumption)
          have q101 : x7_1 < (l0.length : Int) := of_decide_eq_true (by first | (with_reducible assumption) | assumption)
          obtain ⟨ad101, e101, hx101_0, hx101_1, hx101_2⟩ := at_T60 HR0.out x7_1 p101 q101
          cases e101
          replace hx101_0 := (HB.out.cell (World.block_lt_of_cell? w _ hx101_0)).trans hx101_0; replace hx101_1 := (HB.out.cell (World.block_lt_of_cell? w _ hx101_1)).trans hx101_1; replace hx101_2 := (HB.out.cell (World.block_lt_of_cell? w _ hx101_2)).trans hx101_2; replace p101 := eq_true p101; replace q101 := eq_true q101
          try go_wp2_with (first | ((with_reducible refine gate_dst (N := 4) rfl ?_); refine bE (N := 4) (cs := #[.int .i64 0, .int .i64 0, .int .i64 0]) (t := 60) ?_; intro gb102 hg w42 hbox hb; have BK102 := aM (hbox); have GW102 := gE hg HB; have GE102 := gE hg HB; replace HB := sB HB hb; clear hb hbox hg; obtain ⟨hcz43_0, hcz43_1, hcz43_2, hfz43_0, hfz43_1, hfz43_2⟩ := cZ3 BK102))
          have n0_ : Aside0 ((((w42.setCell ⟨gb102, 0, none⟩ (.int .i64 ((rd_T60 l0 x7_1).f0))).setCell ⟨gb102, 1, none⟩ (.int .i64 ((rd_T60 l0 x7_1).f1.f0))).setCell ⟨gb102, 2, none⟩ (.int .i64 ((rd_T60 l0 x7_1).f1.f1))).heap[gb102]? = some (.cells #[.int .i64 ((rd_T60 l0 x7_1).f0), .int .i64 ((rd_T60 l0 x7_1).f1.f0), .int .i64 ((rd_T60 l0 x7_1).f1.f1)] 60 (0, 0))) := ⟨by refine bM ?_; refine blk_put (cs := #[.int .i64 ((rd_T60 l0 x7_1).f0), .int .i64 ((rd_T60 l0 x7_1).f1.f0), .int .i64 0]) ?_ 2 _ rfl; refine bM ?_; refine blk_put (cs := #[.int .i64 ((rd_T60 l0 x7_1).f0), .int .i64 0, .int .i64 0]) ?_ 1 _ rfl; refine bM ?_; refine blk_put (cs := #[.int .i64 0, .int .i64 0, .int .i64 0]) ?_ 0 _ rfl; exact bD BK102⟩
          have n1_ : Aside0 (Below w.heap.size w (((w42.setCell ⟨gb102, 0, none⟩ (.int .i64 ((rd_T60 l0 x7_1).f0))).setCell ⟨gb102, 1, none⟩ (.int .i64 ((rd_T60 l0 x7_1).f1.f0))).setCell ⟨gb102, 2, none⟩ (.int .i64 ((rd_T60 l0 x7_1).f1.f1)))) := ⟨sD HB⟩
          (try clear BK102); (try clear HB)
          generalize (((w42.setCell ⟨gb102, 0, none⟩ (.int .i64 ((rd_T60 l0 x7_1).f0))).setCell ⟨gb102, 1, none⟩ (.int .i64 ((rd_T60 l0 x7_1).f1.f0))).setCell ⟨gb102, 2, none⟩ (.int .i64 ((rd_T60 l0 x7_1).f1.f1))) = w44 at n0_ n1_ ⊢
          have BK102 := n0_; have HB := n1_; clear n0_ n1_; replace BK102 := aM (blk_drew BK102.out); replace HB := aM (below_drew1 HB.out)
          refine start_ (n := 31) (S := fun w' => w'.cell? ⟨gb102, 0, none⟩ = some (.int .i64 ((rd_T60 l0 x7_1).f0)) ∧ w'.cell? ⟨gb102, 1, none⟩ = some (.int .i64 ((rd_T60 l0 x7_1).f1.f0)) ∧ w'.cell? ⟨gb102, 2, none⟩ = some (.int .i64 ((rd_T60 l0 x7_1).f1.f1))) (ds := []) #[false, false, false, false, false, false, false, false, false, false, false, false, false, false, false, false, false, false, false, false, false, false, false, false, false, false, false, false, false, false, false] (by kernel_rfl) rfl rfl ⟨cE BK102 0, cE BK102 1, cE BK102 2⟩ (fun hHeld => ?_); refine with_tabW price_right.tab4 price_right.bits4 (fun HT_ HW_ => ?_)
          generalize w44.drew = w45 at BK102 HB hHeld ⊢
          refine pX (i := 0) (N := some 12) rfl rfl HT_ ?_
          refine tX (i := 1) (N := some 13) rfl rfl HT_ HW_ hHeld (Or.inl ⟨by rfl, by rintro w' ⟨s0, s1, s2⟩; go_simp; with_reducible rfl⟩) ?_
          refine oX (i := 2) (N := some 14) rfl rfl HT_ (fun K hK => ?_)
          refine gS Try.func95 #[.int .i64 ((rd_T60 l0 x7_1).f0)] ?_
          with_reducible refine (price_firm.calls ((rd_T60 l0 x7_1).f0) true _ A5.out).mono ?_
          rintro e w' ⟨rfl, ⟨nd, rfl⟩⟩
          refine ⟨_, rfl, ?_⟩
          refine hK.out _ _ ⟨cE BK102 0, cE BK102 1, cE BK102 2⟩ (fun hHeld => ?_)
          clear hK K
          refine nX (some 14) ?_
          refine pX (i := 3) (N := some 15) rfl rfl HT_ ?_
          refine pX (i := 4) (N := some 16) rfl rfl HT_ ?_
          refine pX (i := 5) (N := some 17) rfl rfl HT_ ?_
          refine pX (i := 6) (N := some 18) rfl rfl HT_ ?_
          refine pX (i := 7) (N := some 19) rfl rfl HT_ ?_
          refine pU (i := 8) (N := some 20) rfl rfl HT_ ?_
          refine pU (i := 9) (N := some 21) rfl rfl HT_ ?_
          refine pU (i := 10) (N := some 22) rfl rfl HT_ ?_
          refine pU (i := 11) (N := some 23) rfl rfl HT_ ?_
          refine pU (i := 12) (N := some 24) rfl rfl HT_ ?_
          refine pU (i := 13) (N := some 25) rfl rfl HT_ ?_
          refine pU (i := 14) (N := some 26) rfl rfl HT_ ?_
          refine pU (i := 15) (N := some 27) rfl rfl HT_ ?_
          refine pU (i := 16) (N := some 28) rfl rfl HT_ ?_
          refine pX (i := 17) (N := some 29) rfl rfl HT_ ?_
          refine pX (i := 18) (N := some 30) rfl rfl HT_ ?_
          refine pX (i := 19) (N := some 31) rfl rfl HT_ ?_
          refine pX (i := 20) (N := some 32) rfl rfl HT_ ?_
          refine tX (i := 21) (N := some 33) rfl rfl HT_ HW_ hHeld (Or.inl ⟨by rfl, by rintro w' ⟨s0, s1, s2⟩; go_simp; with_reducible rfl⟩) ?_
          refine oX (i := 22) (N := some 34) rfl rfl HT_ (fun K hK => ?_)
          refine gS Try.func46 #[.agg #[.int .i64 ((rd_T60 l0 x7_1).f1.f0), .int .i64 ((rd_T60 l0 x7_1).f1.f1)]] ?_
          with_reducible refine (rat_Valid.calls k1 ((rd_T60 l0 x7_1).f1.f0) ((rd_T60 l0 x7_1).f1.f1) true _ A34.out).mono ?_
          rintro e w46 ⟨rfl, hb⟩
          refine ⟨_, rfl, ?_⟩
          replace BK102 := bB BK102 hb; replace HB := sB HB hb; (try clear hb); (try clear hb2); (try clear hk); (try clear hi)
          refine hK.out _ _ ⟨cE BK102 0, cE BK102 1, cE BK102 2⟩ (fun hHeld => ?_)
          clear hK K
          refine nX (some 34) ?_
          refine pX (i := 23) (N := some 35) rfl rfl HT_ ?_
          refine pX (i := 24) (N := some 36) rfl rfl HT_ ?_
          refine pX (i := 25) (N := some 37) rfl rfl HT_ ?_
          refine pX (i := 26) (N := some 38) rfl rfl HT_ ?_
          refine pX (i := 27) (N := some 39) rfl rfl HT_ ?_
          refine tX (i := 28) (N := some 40) rfl rfl HT_ HW_ hHeld (Or.inl ⟨by rfl, by rintro w' ⟨s0, s1, s2⟩; go_simp; with_reducible rfl⟩) ?_
          refine pX (i := 29) (N := some 41) rfl rfl HT_ ?_
          refine pX (i := 30) (N := some 42) rfl rfl HT_ ?_
          refine done_ (done_of HT_.out (by kernel_rfl)) ?_
          try go_wp2
          go_roundg k1
          case measure => have := HK1.out; omega
          case rel => exact ⟨(wrap64 (x7_1 + 1)), (by first | rfl | (simp; done) | (simp [*]; done)), H', ⟨by have := HK1.out; omega⟩, ⟨sD HB⟩⟩
        ·replace c35 := Bool.eq_false_iff.mpr c35
         subst c35
         have H1 : (some false) = some r := by rw [if_neg (show ¬ (false = true) by decide)] at H; exact H
         clear H; have H := H1; clear H1
         obtain rfl := Option.some.inj H
         have p101 : 0 ≤ (x7_1 : Int) := of_decide_eq_true (by first | (with_reducible assumption) | assumption)
         have q101 : x7_1 < (l0.length : Int) := of_decide_eq_true (by first | (with_reducible assumption) | assumption)
         obtain ⟨ad101, e101, hx101_0, hx101_1, hx101_2⟩ := at_T60 HR0.out x7_1 p101 q101
         cases e101
         replace hx101_0 := (HB.out.cell (World.block_lt_of_cell? w _ hx101_0)).trans hx101_0; replace hx101_1 := (HB.out.cell (World.block_lt_of_cell? w _ hx101_1)).trans hx101_1; replace hx101_2 := (HB.out.cell (World.block_lt_of_cell? w _ hx101_2)).trans hx101_2; replace p101 := eq_true p101; replace q101 := eq_true q101
         try go_wp2_with (first | ((with_reducible refine gate_dst (N := 4) rfl ?_); refine bE (N := 4) (cs := #[.int .i64 0, .int .i64 0, .int .i64 0]) (t := 60) ?_; intro gb102 hg w47 hbox hb; have BK102 := aM (hbox); have GW102 := gE hg HB; have GE102 := gE hg HB; replace HB := sB HB hb; clear hb hbox hg; obtain ⟨hcz48_0, hcz48_1, hcz48_2, hfz48_0, hfz48_1, hfz48_2⟩ := cZ3 BK102))
         have n0_ : Aside0 ((((w47.setCell ⟨gb102, 0, none⟩ (.int .i64 ((rd_T60 l0 x7_1).f0))).setCell ⟨gb102, 1, none⟩ (.int .i64 ((rd_T60 l0 x7_1).f1.f0))).setCell ⟨gb102, 2, none⟩ (.int .i64 ((rd_T60 l0 x7_1).f1.f1))).heap[gb102]? = some (.cells #[.int .i64 ((rd_T60 l0 x7_1).f0), .int .i64 ((rd_T60 l0 x7_1).f1.f0), .int .i64 ((rd_T60 l0 x7_1).f1.f1)] 60 (0, 0))) := ⟨by refine bM ?_; refine blk_put (cs := #[.int .i64 ((rd_T60 l0 x7_1).f0), .int .i64 ((rd_T60 l0 x7_1).f1.f0), .int .i64 0]) ?_ 2 _ rfl; refine bM ?_; refine blk_put (cs := #[.int .i64 ((rd_T60 l0 x7_1).f0), .int .i64 0, .int .i64 0]) ?_ 1 _ rfl; refine bM ?_; refine blk_put (cs := #[.int .i64 0, .int .i64 0, .int .i64 0]) ?_ 0 _ rfl; exact bD BK102⟩
         have n1_ : Aside0 (Below w.heap.size w (((w47.setCell ⟨gb102, 0, none⟩ (.int .i64 ((rd_T60 l0 x7_1).f0))).setCell ⟨gb102, 1, none⟩ (.int .i64 ((rd_T60 l0 x7_1).f1.f0))).setCell ⟨gb102, 2, none⟩ (.int .i64 ((rd_T60 l0 x7_1).f1.f1)))) := ⟨sD HB⟩
         (try clear BK102); (try clear HB)
         generalize (((w47.setCell ⟨gb102, 0, none⟩ (.int .i64 ((rd_T60 l0 x7_1).f0))).setCell ⟨gb102, 1, none⟩ (.int .i64 ((rd_T60 l0 x7_1).f1.f0))).setCell ⟨gb102, 2, none⟩ (.int .i64 ((rd_T60 l0 x7_1).f1.f1))) = w49 at n0_ n1_ ⊢
         have BK102 := n0_; have HB := n1_; clear n0_ n1_; replace BK102 := aM (blk_drew BK102.out); replace HB := aM (below_drew1 HB.out)
         refine start_ (n := 31) (S := fun w' => w'.cell? ⟨gb102, 0, none⟩ = some (.int .i64 ((rd_T60 l0 x7_1).f0)) ∧ w'.cell? ⟨gb102, 1, none⟩ = some (.int .i64 ((rd_T60 l0 x7_1).f1.f0)) ∧ w'.cell? ⟨gb102, 2, none⟩ = some (.int .i64 ((rd_T60 l0 x7_1).f1.f1))) (ds := []) #[false, false, false, false, false, false, false, false, false, false, false, false, false, false, false, false, false, false, false, false, false, false, false, false, false, false, false, false, false, false, false] (by kernel_rfl) rfl rfl ⟨cE BK102 0, cE BK102 1, cE BK102 2⟩ (fun hHeld => ?_); refine with_tabW price_right.tab4 price_right.bits4 (fun HT_ HW_ => ?_)
         generalize w49.drew = w50 at BK102 HB hHeld ⊢
         refine pX (i := 0) (N := some 12) rfl rfl HT_ ?_
         refine tX (i := 1) (N := some 13) rfl rfl HT_ HW_ hHeld (Or.inl ⟨by rfl, by rintro w' ⟨s0, s1, s2⟩; go_simp; with_reducible rfl⟩) ?_
         refine oX (i := 2) (N := some 14) rfl rfl HT_ (fun K hK => ?_)
         refine gS Try.func95 #[.int .i64 ((rd_T60 l0 x7_1).f0)] ?_
         with_reducible refine (price_firm.calls ((rd_T60 l0 x7_1).f0) true _ A5.out).mono ?_
         rintro e w' ⟨rfl, ⟨nd, rfl⟩⟩
         refine ⟨_, rfl, ?_⟩
         refine hK.out _ _ ⟨cE BK102 0, cE BK102 1, cE BK102 2⟩ (fun hHeld => ?_)
         clear hK K
         refine nX (some 14) ?_
         refine pX (i := 3) (N := some 15) rfl rfl HT_ ?_
         refine pX (i := 4) (N := some 16) rfl rfl HT_ ?_
         refine pX (i := 5) (N := some 17) rfl rfl HT_ ?_
         refine pX (i := 6) (N := some 18) rfl rfl HT_ ?_
         refine pX (i := 7) (N := some 19) rfl rfl HT_ ?_
         refine pU (i := 8) (N := some 20) rfl rfl HT_ ?_
         refine pU (i := 9) (N := some 21) rfl rfl HT_ ?_
         refine pU (i := 10) (N := some 22) rfl rfl HT_ ?_
         refine pU (i := 11) (N := some 23) rfl rfl HT_ ?_
         refine pU (i := 12) (N := some 24) rfl rfl HT_ ?_
         refine pU (i := 13) (N := some 25) rfl rfl HT_ ?_
         refine pU (i := 14) (N := some 26) rfl rfl HT_ ?_
         refine pU (i := 15) (N := some 27) rfl rfl HT_ ?_
         refine pU (i := 16) (N := some 28) rfl rfl HT_ ?_
         refine pX (i := 17) (N := some 29) rfl rfl HT_ ?_
         refine pX (i := 18) (N := some 30) rfl rfl HT_ ?_
         refine pX (i := 19) (N := some 31) rfl rfl HT_ ?_
         refine pX (i := 20) (N := some 32) rfl rfl HT_ ?_
         refine tX (i := 21) (N := some 33) rfl rfl HT_ HW_ hHeld (Or.inl ⟨by rfl, by rintro w' ⟨s0, s1, s2⟩; go_simp; with_reducible rfl⟩) ?_
         refine oX (i := 22) (N := some 34) rfl rfl HT_ (fun K hK => ?_)
         refine gS Try.func46 #[.agg #[.int .i64 ((rd_T60 l0 x7_1).f1.f0), .int .i64 ((rd_T60 l0 x7_1).f1.f1)]] ?_
         with_reducible refine (rat_Valid.calls k1 ((rd_T60 l0 x7_1).f1.f0) ((rd_T60 l0 x7_1).f1.f1) false _ A34.out).mono ?_
         rintro e w51 ⟨rfl, hb⟩
         refine ⟨_, rfl, ?_⟩
         replace BK102 := bB BK102 hb; replace HB := sB HB hb; (try clear hb); (try clear hb2); (try clear hk); (try clear hi)
         refine hK.out _ _ ⟨cE BK102 0, cE BK102 1, cE BK102 2⟩ (fun hHeld => ?_)
         clear hK K
         refine nX (some 34) ?_
         refine pX (i := 23) (N := some 35) rfl rfl HT_ ?_
         refine pX (i := 24) (N := some 36) rfl rfl HT_ ?_
         refine pX (i := 25) (N := some 37) rfl rfl HT_ ?_
         refine pU (i := 26) (N := some 38) rfl rfl HT_ ?_
         refine pU (i := 27) (N := some 39) rfl rfl HT_ ?_
         refine pU (i := 28) (N := some 40) rfl rfl HT_ ?_
         refine pU (i := 29) (N := some 41) rfl rfl HT_ ?_
         refine pX (i := 30) (N := some 42) rfl rfl HT_ ?_
         refine done_ (done_of HT_.out (by kernel_rfl)) ?_
         try go_wp2
         go_ret
         exact ⟨by first | rfl | (simp [errW_none, errW_some] <;> rfl) | (simp [*, errW_none, errW_some] <;> rfl), sD HB⟩
      ·replace c6 := Bool.eq_false_iff.mpr c6
       subst c6
       have H1 : (some false) = some r := by rw [if_neg (show ¬ (false = true) by decide)] at H; exact H
       clear H; have H := H1; clear H1
       obtain rfl := Option.some.inj H
       have p101 : 0 ≤ (x7_1 : Int) := of_decide_eq_true (by first | (with_reducible assumption) | assumption)
       have q101 : x7_1 < (l0.length : Int) := of_decide_eq_true (by first | (with_reducible assumption) | assumption)
       obtain ⟨ad101, e101, hx101_0, hx101_1, hx101_2⟩ := at_T60 HR0.out x7_1 p101 q101
       cases e101
       replace hx101_0 := (HB.out.cell (World.block_lt_of_cell? w _ hx101_0)).trans hx101_0; replace hx101_1 := (HB.out.cell (World.block_lt_of_cell? w _ hx101_1)).trans hx101_1; replace hx101_2 := (HB.out.cell (World.block_lt_of_cell? w _ hx101_2)).trans hx101_2; replace p101 := eq_true p101; replace q101 := eq_true q101
       try go_wp2_with (first | ((with_reducible refine gate_dst (N := 4) rfl ?_); refine bE (N := 4) (cs := #[.int .i64 0, .int .i64 0, .int .i64 0]) (t := 60) ?_; intro gb102 hg w52 hbox hb; have BK102 := aM (hbox); have GW102 := gE hg HB; have GE102 := gE hg HB; replace HB := sB HB hb; clear hb hbox hg; obtain ⟨hcz53_0, hcz53_1, hcz53_2, hfz53_0, hfz53_1, hfz53_2⟩ := cZ3 BK102))
       have n0_ : Aside0 ((((w52.setCell ⟨gb102, 0, none⟩ (.int .i64 ((rd_T60 l0 x7_1).f0))).setCell ⟨gb102, 1, none⟩ (.int .i64 ((rd_T60 l0 x7_1).f1.f0))).setCell ⟨gb102, 2, none⟩ (.int .i64 ((rd_T60 l0 x7_1).f1.f1))).heap[gb102]? = some (.cells #[.int .i64 ((rd_T60 l0 x7_1).f0), .int .i64 ((rd_T60 l0 x7_1).f1.f0), .int .i64 ((rd_T60 l0 x7_1).f1.f1)] 60 (0, 0))) := ⟨by refine bM ?_; refine blk_put (cs := #[.int .i64 ((rd_T60 l0 x7_1).f0), .int .i64 ((rd_T60 l0 x7_1).f1.f0), .int .i64 0]) ?_ 2 _ rfl; refine bM ?_; refine blk_put (cs := #[.int .i64 ((rd_T60 l0 x7_1).f0), .int .i64 0, .int .i64 0]) ?_ 1 _ rfl; refine bM ?_; refine blk_put (cs := #[.int .i64 0, .int .i64 0, .int .i64 0]) ?_ 0 _ rfl; exact bD BK102⟩
       have n1_ : Aside0 (Below w.heap.size w (((w52.setCell ⟨gb102, 0, none⟩ (.int .i64 ((rd_T60 l0 x7_1).f0))).setCell ⟨gb102, 1, none⟩ (.int .i64 ((rd_T60 l0 x7_1).f1.f0))).setCell ⟨gb102, 2, none⟩ (.int .i64 ((rd_T60 l0 x7_1).f1.f1)))) := ⟨sD HB⟩
       (try clear BK102); (try clear HB)
       generalize (((w52.setCell ⟨gb102, 0, none⟩ (.int .i64 ((rd_T60 l0 x7_1).f0))).setCell ⟨gb102, 1, none⟩ (.int .i64 ((rd_T60 l0 x7_1).f1.f0))).setCell ⟨gb102, 2, none⟩ (.int .i64 ((rd_T60 l0 x7_1).f1.f1))) = w54 at n0_ n1_ ⊢
       have BK102 := n0_; have HB := n1_; clear n0_ n1_; replace BK102 := aM (blk_drew BK102.out); replace HB := aM (below_drew1 HB.out)
       refine start_ (n := 31) (S := fun w' => w'.cell? ⟨gb102, 0, none⟩ = some (.int .i64 ((rd_T60 l0 x7_1).f0)) ∧ w'.cell? ⟨gb102, 1, none⟩ = some (.int .i64 ((rd_T60 l0 x7_1).f1.f0)) ∧ w'.cell? ⟨gb102, 2, none⟩ = some (.int .i64 ((rd_T60 l0 x7_1).f1.f1))) (ds := []) #[false, false, false, false, false, false, false, false, false, false, false, false, false, false, false, false, false, false, false, false, false, false, false, false, false, false, false, false, false, false, false] (by kernel_rfl) rfl rfl ⟨cE BK102 0, cE BK102 1, cE BK102 2⟩ (fun hHeld => ?_); refine with_tabW price_right.tab4 price_right.bits4 (fun HT_ HW_ => ?_)
       generalize w54.drew = w55 at BK102 HB hHeld ⊢
       refine pX (i := 0) (N := some 12) rfl rfl HT_ ?_
       refine tX (i := 1) (N := some 13) rfl rfl HT_ HW_ hHeld (Or.inl ⟨by rfl, by rintro w' ⟨s0, s1, s2⟩; go_simp; with_reducible rfl⟩) ?_
       refine oX (i := 2) (N := some 14) rfl rfl HT_ (fun K hK => ?_)
       refine gS Try.func95 #[.int .i64 ((rd_T60 l0 x7_1).f0)] ?_
       with_reducible refine (price_firm.calls ((rd_T60 l0 x7_1).f0) false _ A5.out).mono ?_
       rintro e w' ⟨rfl, ⟨nd, rfl⟩⟩
       refine ⟨_, rfl, ?_⟩
       refine hK.out _ _ ⟨cE BK102 0, cE BK102 1, cE BK102 2⟩ (fun hHeld => ?_)
       clear hK K
       refine nX (some 14) ?_
       refine pX (i := 3) (N := some 15) rfl rfl HT_ ?_
       refine pX (i := 4) (N := some 16) rfl rfl HT_ ?_
       refine pU (i := 5) (N := some 17) rfl rfl HT_ ?_
       refine pU (i := 6) (N := some 18) rfl rfl HT_ ?_
       refine pU (i := 7) (N := some 19) rfl rfl HT_ ?_
       refine pU (i := 8) (N := some 20) rfl rfl HT_ ?_
       refine pU (i := 9) (N := some 21) rfl rfl HT_ ?_
       refine pU (i := 10) (N := some 22) rfl rfl HT_ ?_
       refine pU (i := 11) (N := some 23) rfl rfl HT_ ?_
       refine pU (i := 12) (N := some 24) rfl rfl HT_ ?_
       refine pU (i := 13) (N := some 25) rfl rfl HT_ ?_
       refine pU (i := 14) (N := some 26) rfl rfl HT_ ?_
       refine pU (i := 15) (N := some 27) rfl rfl HT_ ?_
       refine pU (i := 16) (N := some 28) rfl rfl HT_ ?_
       refine pU (i := 17) (N := some 29) rfl rfl HT_ ?_
       refine pX (i := 18) (N := some 30) rfl rfl HT_ ?_
       refine pX (i := 19) (N := some 31) rfl rfl HT_ ?_
       refine pU (i := 20) (N := some 32) rfl rfl HT_ ?_
       refine pU (i := 21) (N := some 33) rfl rfl HT_ ?_
       refine pU (i := 22) (N := some 34) rfl rfl HT_ ?_
       refine pU (i := 23) (N := some 35) rfl rfl HT_ ?_
       refine pX (i := 24) (N := some 36) rfl rfl HT_ ?_
       refine pX (i := 25) (N := some 37) rfl rfl HT_ ?_
       refine pU (i := 26) (N := some 38) rfl rfl HT_ ?_
       refine pU (i := 27) (N := some 39) rfl rfl HT_ ?_
       refine pU (i := 28) (N := some 40) rfl rfl HT_ ?_
       refine pU (i := 29) (N := some 41) rfl rfl HT_ ?_
       refine pX (i := 30) (N := some 42) rfl rfl HT_ ?_
       refine done_ (done_of HT_.out (by kernel_rfl)) ?_
       try go_wp2
       go_ret
       exact ⟨by first | rfl | (simp [errW_none, errW_some] <;> rfl) | (simp [*, errW_none, errW_some] <;> rfl), sD HB⟩
     ·rw [if_neg c4] at H
      exact absurd H (by simp)
    ·rw [if_neg c3] at H
     exact absurd H (by simp)
   ·rw [if_neg c2] at H
    have c2b0 : decide (x7_1 < (l0.length : Int)) = false := decide_eq_false c2
    clear c2
    obtain rfl := Option.some.inj H
    go_wp2
    go_ret
    exact ⟨by first | rfl | (simp [errW_none, errW_some] <;> rfl) | (simp [*, errW_none, errW_some] <;> rfl), sD HB⟩
end Go.Proofs.Ytohnkcmbogcfhaa.P
namespace Go.Proofs.Ytohnkcmbogcfhaa.P
open Go.Proofs.YtohnkcmbogcfhaaH Go.RowKit Go.Proofs.YtohnkcmbogcfhaaW.PrintWords Go.Proofs.YtohnkcmbogcfhaaW.PrintLast Go.Proofs.YtohnkcmbogcfhaaW.PrintMore
/-- The Bond of account i is stored. -/
theorem bond_put {W : World} {base g n cap : Nat} {ok : Nat → Prop} {xs : List S60} (h : Kd.R k60 60 W base ok (.slice (some ⟨g, 0, none⟩) n cap) xs) (i : Int) (h0 : 0 ≤ i) (h1 : i < n) (bn bd : Int) :
  Kd.R k60 60 ((W.setCell ⟨g, i.toNat * 3 + 1, none⟩ (.int .i64 bn)).setCell ⟨g, i.toNat * 3 + 2, none⟩ (.int .i64 bd)) base ok (.slice (some ⟨g, 0, none⟩) n cap) (xs.set i.toNat ⟨(rd_T60 xs i).f0, ⟨bn, bd⟩⟩) ∧
  W.grownBy ((W.setCell ⟨g, i.toNat * 3 + 1, none⟩ (.int .i64 bn)).setCell ⟨g, i.toNat * 3 + 2, none⟩ (.int .i64 bd)) (some g) := by
 obtain ⟨c, hcl, hM, hcc, hf⟩ := Kd.R_elem h z60 i h0 h1
 obtain rfl := k60_openM hM
 have := Kd.R_seg h i h0 h1 (c := _) (seg := [.int .i64 bn, .int .i64 bd]) (j := 1) hcl hcc (show 3 ≤ 3 from by decide) (x' := (⟨(rd_T60 xs i).f0, ⟨bn, bd⟩⟩ : S60)) (okp := fun k => ok k ∧ k ≠ g) (k60_mkM _ _ _ (⟨(rd_T60 xs i).f0, ⟨bn, bd⟩⟩ : S60)) (fun k hk => hk)
 exact this
/-- One move: the Bond of account i, less or more what is paid. -/
def bondSet (xs : List S60) (i : Int) (n d : Int) : List S60 := xs.set i.toNat ⟨(rd_T60 xs i).f0, ⟨n, d⟩⟩
def settleF (k : Nat) (xs : List S60) (i j : Int) (pn pd : Int) : Option (List S60 × Int × Int × Int) :=
 (rat_Sub.f k (rd_T60 xs i).f1.f0 (rd_T60 xs i).f1.f1 pn pd).bind fun b => if b.2.2 = 0 then
  (rat_Add.f k (rd_T60 (bondSet xs i b.1 b.2.1) j).f1.f0 (rd_T60 (bondSet xs i b.1 b.2.1) j).f1.f1 pn pd).bind fun c => if c.2.2 = 0 then
   some (bondSet (bondSet xs i b.1 b.2.1) j c.1 c.2.1, pn, pd, 0) else some ([], 0, 0, c.2.2)
  else some ([], 0, 0, b.2.2)
def price_Settle.f (k : Nat) (l0 : List S60) (a1_0 a1_1 a1_2 a1_3 : Int) (a2 : Int) (a3_0 a3_1 : Int) : Option (List S60 × Int × Int × Int) :=
 (price_right.f k l0).bind fun b => if b = false then some ([], 0, 0, 1) else
 (rat_Valid.f k a3_0 a3_1).bind fun v => if v = false then some ([], 0, 0, 1) else
 if a3_0 < 0 then some ([], 0, 0, 1) else
 (price_at.f l0 a1_1).bind fun i => (price_at.f l0 a2).bind fun j =>
 if i < 0 ∨ j < 0 then some ([], 0, 0, 4) else
 (api_Account_104.f l0).bind fun out =>
 (rat_Min.f (rd_T60 l0 i).f1.f0 (rd_T60 l0 i).f1.f1 a3_0 a3_1).bind fun p => settleF k out i j p.1 p.2
def price_Settle.T6 : Bool × List (List Nat × List Nat) := (true, [([], []), ([0], [0]), ([], []), ([], []), ([2, 3], [2, 3]), ([4], [4]), ([5], [5]), ([], []), ([6, 7, 1], [6, 7]), ([], []), ([1, 8, 0, 1, 9], [1]), ([9, 8, 10, 0, 1, 2, 3, 4, 5, 6, 7, 8, 9, 10], [8, 9])])
def price_Settle.B6 : List Nat := [0, 1, 0, 0, 12, 28, 60, 0, 255, 0, 1023, 2047]
theorem price_Settle.tab6 : rtab .any (opsOf Try.f70 6) = price_Settle.T6 := by kernel_rfl
theorem price_Settle.bits6 : waitsOk price_Settle.T6.2 price_Settle.B6 = true := by kernel_rfl
def price_Settle.T10 : Bool × List (List Nat × List Nat) := (true, [([], []), ([0], [0]), ([], []), ([], []), ([3], [3]), ([2, 4], [2, 4]), ([5], [5]), ([6], [6]), ([], []), ([1, 7, 8], [1, 7, 8]), ([9], [9]), ([10], [10]), ([10], [10]), ([], []), ([13, 11, 9, 0, 1, 2, 3, 4, 5, 6, 7, 8, 9, 10, 11, 13], [11, 13]), ([12, 14, 0, 1, 2, 3, 4, 5, 6, 7, 8, 9, 10, 11, 12, 13, 14], [12])])
def price_Settle.B10 : List Nat := [0, 1, 0, 0, 8, 28, 60, 124, 0, 511, 1023, 2047, 2047, 0, 12287, 32767]
theorem price_Settle.tab10 : rtab .any (opsOf Try.f70 10) = price_Settle.T10 := by kernel_rfl
theorem price_Settle.bits10 : waitsOk price_Settle.T10.2 price_Settle.B10 = true := by kernel_rfl
theorem settle_ret {tm : Array Value} {W : World} {g : Nat} {v : Value} {n d e : Int} (t8 : tm.getD 8 undef = v) (t9 : tm.getD 9 undef = .pointer (some ⟨g, 0, none⟩)) (t10 : tm.getD 10 undef = .int .i64 e) (hg : W.heap[g]? = some (.cells #[.int .i64 n, .int .i64 d] 35 (0, 0))) :
  (results Try.f70 tm).run Try.prog W = .ok (.tuple #[v, .agg #[.int .i64 n, .int .i64 d], .int .i64 e]) W := by
 have := results_list (fn := Try.f70) (P := Try.prog) (tmps := tm) (w := W) (rs := [.tmp 8, .cell 9 35, .tmp 10]) rfl (by simp) (.tmp (.cell g 35 #[.int .i64 n, .int .i64 d] (0, 0) _ t9 hg Try.underlying35 rfl (by kernel_rfl) (.tmp .nil)))
 rw [t8, t10] at this
 exact this
set_option maxRecDepth 100000 in
set_option maxHeartbeats 8000000 in
theorem price_Settle.calls (k : Nat) (A0 : Option Addr) (c0 : Nat) (l0 : List (S60)) (a1_0 a1_1 a1_2 a1_3 : Int) (a2 : Int) (a3_0 a3_1 : Int) (r1 : List S60) (r2 r3 r4 : Int) (w : World) (hr0 : Kd.C k60 w A0 l0.length l0) (hc0 : l0.length ≤ c0) (h : price_Settle.f k l0 a1_0 a1_1 a1_2 a1_3 a2 a3_0 a3_1 = some (r1, r2, r3, r4)) :
  Calls Try.prog 70 #[.slice A0 l0.length c0, .agg #[.int .i64 a1_0, .int .i64 a1_1, .int .i64 a1_2, .int .i64 a1_3], .int .i64 a2, .agg #[.int .i64 a3_0, .int .i64 a3_1]] w fun e w' => ∃ v0_ : Value, e = .returned (.tuple #[v0_, .agg #[.int .i64 r2, .int .i64 r3], .int .i64 r4]) ∧ Kd.R k60 60 w' w.heap.size (fun _ => True) v0_ r1 ∧ Below w.heap.size w w' := by
 have hu35 := Try.underlying35
 have hu78 := Try.underlying78
 unfold price_Settle.f at h
 obtain ⟨b, hb, h⟩ := Option.bind_eq_some_iff.mp h
 go_enter Try.func70, Try.ntmps70
 go_wp2_with fail
 have b5 : (((w.alloc (.cells #[.int .i64 a1_0, .int .i64 a1_1, .int .i64 a1_2, .int .i64 a1_3] 78)).alloc (.cells #[.int .i64 a3_0, .int .i64 a3_1] 35)).alloc (.cells #[.int .i64 0, .int .i64 0] 35)).heap[w.heap.size]? = some (.cells #[.int .i64 a1_0, .int .i64 a1_1, .int .i64 a1_2, .int .i64 a1_3] 78 (0, 0)) := blk_alloc (blk_alloc (blk_new _ _) _) _
 have b7 : (((w.alloc (.cells #[.int .i64 a1_0, .int .i64 a1_1, .int .i64 a1_2, .int .i64 a1_3] 78)).alloc (.cells #[.int .i64 a3_0, .int .i64 a3_1] 35)).alloc (.cells #[.int .i64 0, .int .i64 0] 35)).heap[w.heap.size + 1]? = some (.cells #[.int .i64 a3_0, .int .i64 a3_1] 35 (0, 0)) := by
  have := blk_alloc (blk_new (w.alloc (.cells #[.int .i64 a1_0, .int .i64 a1_1, .int .i64 a1_2, .int .i64 a1_3] 78)) (.cells #[.int .i64 a3_0, .int .i64 a3_1] 35)) (.cells #[.int .i64 0, .int .i64 0] 35)
  rwa [World.size_alloc] at this
 have b9 : (((w.alloc (.cells #[.int .i64 a1_0, .int .i64 a1_1, .int .i64 a1_2, .int .i64 a1_3] 78)).alloc (.cells #[.int .i64 a3_0, .int .i64 a3_1] 35)).alloc (.cells #[.int .i64 0, .int .i64 0] 35)).heap[w.heap.size + 1 + 1]? = some (.cells #[.int .i64 0, .int .i64 0] 35 (0, 0)) := by
  have := blk_new ((w.alloc (.cells #[.int .i64 a1_0, .int .i64 a1_1, .int .i64 a1_2, .int .i64 a1_3] 78)).alloc (.cells #[.int .i64 a3_0, .int .i64 a3_1] 35)) (.cells #[.int .i64 0, .int .i64 0] 35)
  rwa [World.size_alloc, World.size_alloc] at this
 have hB0 : Below w.heap.size w (((w.alloc (.cells #[.int .i64 a1_0, .int .i64 a1_1, .int .i64 a1_2, .int .i64 a1_3] 78)).alloc (.cells #[.int .i64 a3_0, .int .i64 a3_1] 35)).alloc (.cells #[.int .i64 0, .int .i64 0] 35)) := (((Below.refl _ w).alloc (Nat.le_refl _) _).alloc (by simp) _).alloc (by simp; omega) _
 generalize ((w.alloc (.cells #[.int .i64 a1_0, .int .i64 a1_1, .int .i64 a1_2, .int .i64 a1_3] 78)).alloc (.cells #[.int .i64 a3_0, .int .i64 a3_1] 35)).alloc (.cells #[.int .i64 0, .int .i64 0] 35) = W0 at b5 b7 b9 hB0 ⊢
 cases b with
 | false =>
  simp only [if_true, Option.some.injEq, Prod.mk.injEq] at h
  obtain ⟨rfl, rfl, rfl, rfl⟩ := h
  (refine (price_right.calls k A0 c0 l0 _ _ (Kd.C_below hr0 hB0) hc0 hb).mono ?_; rintro e w1 ⟨rfl, hd⟩; replace b5 := blk_below b5 hd; replace b7 := blk_below b7 hd; replace b9 := blk_below b9 hd; replace hB0 := below_step hB0 hd; clear hd; (try clear x70 x71 x51 x90 x91 y90 y91); obtain ⟨x70, x71, _, _⟩ := cZ2 ⟨b7⟩; have x51 : w1.cell? ⟨w.heap.size, 1, none⟩ = some (.int .i64 a1_1) := (blk_cell b5 1).trans rfl; obtain ⟨x90, x91, y90, y91⟩ := cZ2 ⟨b9⟩)
  go_wp2
  refine bodyPost_ret (settle_ret rfl rfl rfl (blk_put (cs := #[.int .i64 0, .int .i64 0]) (blk_put (cs := #[.int .i64 0, .int .i64 0]) b9 0 _ rfl) 1 _ rfl)) rfl ?_
  exact ⟨_, rfl, Kd.R_nil _ _ _ _ _, (hB0.setCell (p := ⟨w.heap.size + 1 + 1, 0, none⟩) (by simp; omega) _).setCell (p := ⟨w.heap.size + 1 + 1, 1, none⟩) (by simp; omega) _⟩
 | true =>
  simp only [Bool.true_eq_false, if_false] at h
  obtain ⟨v, hv, h⟩ := Option.bind_eq_some_iff.mp h
  cases v with
  | false =>
   simp only [if_true, Option.some.injEq, Prod.mk.injEq] at h
   obtain ⟨rfl, rfl, rfl, rfl⟩ := h
   (refine (price_right.calls k A0 c0 l0 _ _ (Kd.C_below hr0 hB0) hc0 hb).mono ?_; rintro e w1 ⟨rfl, hd⟩; replace b5 := blk_below b5 hd; replace b7 := blk_below b7 hd; replace b9 := blk_below b9 hd; replace hB0 := below_step hB0 hd; clear hd; (try clear x70 x71 x51 x90 x91 y90 y91); obtain ⟨x70, x71, _, _⟩ := cZ2 ⟨b7⟩; have x51 : w1.cell? ⟨w.heap.size, 1, none⟩ = some (.int .i64 a1_1) := (blk_cell b5 1).trans rfl; obtain ⟨x90, x91, y90, y91⟩ := cZ2 ⟨b9⟩)
   go_wp2_with (go_at_call 46; refine (rat_Valid.calls k a3_0 a3_1 _ _ hv).mono ?_; rintro e w2 ⟨rfl, hd⟩; replace b5 := blk_below b5 hd; replace b7 := blk_below b7 hd; replace b9 := blk_below b9 hd; replace hB0 := below_step hB0 hd; clear hd; (try clear x70 x71 x51 x90 x91 y90 y91); obtain ⟨x70, x71, _, _⟩ := cZ2 ⟨b7⟩; have x51 : w2.cell? ⟨w.heap.size, 1, none⟩ = some (.int .i64 a1_1) := (blk_cell b5 1).trans rfl; obtain ⟨x90, x91, y90, y91⟩ := cZ2 ⟨b9⟩)
   refine bodyPost_ret (settle_ret rfl rfl rfl (blk_put (cs := #[.int .i64 0, .int .i64 0]) (blk_put (cs := #[.int .i64 0, .int .i64 0]) b9 0 _ rfl) 1 _ rfl)) rfl ?_
   exact ⟨_, rfl, Kd.R_nil _ _ _ _ _, (hB0.setCell (p := ⟨w.heap.size + 1 + 1, 0, none⟩) (by simp; omega) _).setCell (p := ⟨w.heap.size + 1 + 1, 1, none⟩) (by simp; omega) _⟩
  | true =>
   simp only [Bool.true_eq_false, if_false] at h
   split at h
   ·rename_i hneg
    simp only [Option.some.injEq, Prod.mk.injEq] at h
    obtain ⟨rfl, rfl, rfl, rfl⟩ := h
    have hnb : decide (a3_0 < 0) = true := decide_eq_true hneg
    (refine (price_right.calls k A0 c0 l0 _ _ (Kd.C_below hr0 hB0) hc0 hb).mono ?_; rintro e w1 ⟨rfl, hd⟩; replace b5 := blk_below b5 hd; replace b7 := blk_below b7 hd; replace b9 := blk_below b9 hd; replace hB0 := below_step hB0 hd; clear hd; (try clear x70 x71 x51 x90 x91 y90 y91); obtain ⟨x70, x71, _, _⟩ := cZ2 ⟨b7⟩; have x51 : w1.cell? ⟨w.heap.size, 1, none⟩ = some (.int .i64 a1_1) := (blk_cell b5 1).trans rfl; obtain ⟨x90, x91, y90, y91⟩ := cZ2 ⟨b9⟩)
    go_wp2_with (go_at_call 46; refine (rat_Valid.calls k a3_0 a3_1 _ _ hv).mono ?_; rintro e w2 ⟨rfl, hd⟩; replace b5 := blk_below b5 hd; replace b7 := blk_below b7 hd; replace b9 := blk_below b9 hd; replace hB0 := below_step hB0 hd; clear hd; (try clear x70 x71 x51 x90 x91 y90 y91); obtain ⟨x70, x71, _, _⟩ := cZ2 ⟨b7⟩; have x51 : w2.cell? ⟨w.heap.size, 1, none⟩ = some (.int .i64 a1_1) := (blk_cell b5 1).trans rfl; obtain ⟨x90, x91, y90, y91⟩ := cZ2 ⟨b9⟩)
    refine bodyPost_ret (settle_ret rfl rfl rfl (blk_put (cs := #[.int .i64 0, .int .i64 0]) (blk_put (cs := #[.int .i64 0, .int .i64 0]) b9 0 _ rfl) 1 _ rfl)) rfl ?_
    exact ⟨_, rfl, Kd.R_nil _ _ _ _ _, (hB0.setCell (p := ⟨w.heap.size + 1 + 1, 0, none⟩) (by simp; omega) _).setCell (p := ⟨w.heap.size + 1 + 1, 1, none⟩) (by simp; omega) _⟩
   ·rename_i hneg
    have hnb : decide (a3_0 < 0) = false := decide_eq_false hneg
    obtain ⟨i, hi, h⟩ := Option.bind_eq_some_iff.mp h
    obtain ⟨j, hj, h⟩ := Option.bind_eq_some_iff.mp h
    by_cases hib : i < 0
    ·rw [if_pos (Or.inl hib)] at h
     simp only [Option.some.injEq, Prod.mk.injEq] at h
     obtain ⟨rfl, rfl, rfl, rfl⟩ := h
     have hid : decide (i < 0) = true := decide_eq_true hib
     (refine (price_right.calls k A0 c0 l0 _ _ (Kd.C_below hr0 hB0) hc0 hb).mono ?_; rintro e w1 ⟨rfl, hd⟩; replace b5 := blk_below b5 hd; replace b7 := blk_below b7 hd; replace b9 := blk_below b9 hd; replace hB0 := below_step hB0 hd; clear hd; (try clear x70 x71 x51 x90 x91 y90 y91); obtain ⟨x70, x71, _, _⟩ := cZ2 ⟨b7⟩; have x51 : w1.cell? ⟨w.heap.size, 1, none⟩ = some (.int .i64 a1_1) := (blk_cell b5 1).trans rfl; obtain ⟨x90, x91, y90, y91⟩ := cZ2 ⟨b9⟩)
     go_wp2_with (first | (go_at_call 46; refine (rat_Valid.calls k a3_0 a3_1 _ _ hv).mono ?_; rintro e w2 ⟨rfl, hd⟩; replace b5 := blk_below b5 hd; replace b7 := blk_below b7 hd; replace b9 := blk_below b9 hd; replace hB0 := below_step hB0 hd; clear hd; (try clear x70 x71 x51 x90 x91 y90 y91); obtain ⟨x70, x71, _, _⟩ := cZ2 ⟨b7⟩; have x51 : w2.cell? ⟨w.heap.size, 1, none⟩ = some (.int .i64 a1_1) := (blk_cell b5 1).trans rfl; obtain ⟨x90, x91, y90, y91⟩ := cZ2 ⟨b9⟩) | (go_at_call 103; refine (price_at.calls A0 c0 l0 a1_1 i _ (Kd.C_below hr0 hB0) hc0 hi).mono ?_; rintro e w3 ⟨rfl, hd⟩; replace b5 := blk_below b5 hd; replace b7 := blk_below b7 hd; replace b9 := blk_below b9 hd; replace hB0 := below_step hB0 hd; clear hd; (try clear x70 x71 x51 x90 x91 y90 y91); obtain ⟨x70, x71, _, _⟩ := cZ2 ⟨b7⟩; have x51 : w3.cell? ⟨w.heap.size, 1, none⟩ = some (.int .i64 a1_1) := (blk_cell b5 1).trans rfl; obtain ⟨x90, x91, y90, y91⟩ := cZ2 ⟨b9⟩) | (go_at_call 103; refine (price_at.calls A0 c0 l0 a2 j _ (Kd.C_below hr0 hB0) hc0 hj).mono ?_; rintro e w4 ⟨rfl, hd⟩; replace b5 := blk_below b5 hd; replace b7 := blk_below b7 hd; replace b9 := blk_below b9 hd; replace hB0 := below_step hB0 hd; clear hd; (try clear x70 x71 x51 x90 x91 y90 y91); obtain ⟨x70, x71, _, _⟩ := cZ2 ⟨b7⟩; have x51 : w4.cell? ⟨w.heap.size, 1, none⟩ = some (.int .i64 a1_1) := (blk_cell b5 1).trans rfl; obtain ⟨x90, x91, y90, y91⟩ := cZ2 ⟨b9⟩))
     refine bodyPost_ret (settle_ret rfl rfl rfl (blk_put (cs := #[.int .i64 0, .int .i64 0]) (blk_put (cs := #[.int .i64 0, .int .i64 0]) b9 0 _ rfl) 1 _ rfl)) rfl ?_
     exact ⟨_, rfl, Kd.R_nil _ _ _ _ _, (hB0.setCell (p := ⟨w.heap.size + 1 + 1, 0, none⟩) (by simp; omega) _).setCell (p := ⟨w.heap.size + 1 + 1, 1, none⟩) (by simp; omega) _⟩
    by_cases hjb : j < 0
    ·rw [if_pos (Or.inr hjb)] at h
     simp only [Option.some.injEq, Prod.mk.injEq] at h
     obtain ⟨rfl, rfl, rfl, rfl⟩ := h
     have hid : decide (i < 0) = false := decide_eq_false hib
     have hjd : decide (j < 0) = true := decide_eq_true hjb
     (refine (price_right.calls k A0 c0 l0 _ _ (Kd.C_below hr0 hB0) hc0 hb).mono ?_; rintro e w1 ⟨rfl, hd⟩; replace b5 := blk_below b5 hd; replace b7 := blk_below b7 hd; replace b9 := blk_below b9 hd; replace hB0 := below_step hB0 hd; clear hd; (try clear x70 x71 x51 x90 x91 y90 y91); obtain ⟨x70, x71, _, _⟩ := cZ2 ⟨b7⟩; have x51 : w1.cell? ⟨w.heap.size, 1, none⟩ = some (.int .i64 a1_1) := (blk_cell b5 1).trans rfl; obtain ⟨x90, x91, y90, y91⟩ := cZ2 ⟨b9⟩)
     go_wp2_with (first | (go_at_call 46; refine (rat_Valid.calls k a3_0 a3_1 _ _ hv).mono ?_; rintro e w2 ⟨rfl, hd⟩; replace b5 := blk_below b5 hd; replace b7 := blk_below b7 hd; replace b9 := blk_below b9 hd; replace hB0 := below_step hB0 hd; clear hd; (try clear x70 x71 x51 x90 x91 y90 y91); obtain ⟨x70, x71, _, _⟩ := cZ2 ⟨b7⟩; have x51 : w2.cell? ⟨w.heap.size, 1, none⟩ = some (.int .i64 a1_1) := (blk_cell b5 1).trans rfl; obtain ⟨x90, x91, y90, y91⟩ := cZ2 ⟨b9⟩) | (go_at_call 103; refine (price_at.calls A0 c0 l0 a1_1 i _ (Kd.C_below hr0 hB0) hc0 hi).mono ?_; rintro e w3 ⟨rfl, hd⟩; replace b5 := blk_below b5 hd; replace b7 := blk_below b7 hd; replace b9 := blk_below b9 hd; replace hB0 := below_step hB0 hd; clear hd; (try clear x70 x71 x51 x90 x91 y90 y91); obtain ⟨x70, x71, _, _⟩ := cZ2 ⟨b7⟩; have x51 : w3.cell? ⟨w.heap.size, 1, none⟩ = some (.int .i64 a1_1) := (blk_cell b5 1).trans rfl; obtain ⟨x90, x91, y90, y91⟩ := cZ2 ⟨b9⟩) | (go_at_call 103; refine (price_at.calls A0 c0 l0 a2 j _ (Kd.C_below hr0 hB0) hc0 hj).mono ?_; rintro e w4 ⟨rfl, hd⟩; replace b5 := blk_below b5 hd; replace b7 := blk_below b7 hd; replace b9 := blk_below b9 hd; replace hB0 := below_step hB0 hd; clear hd; (try clear x70 x71 x51 x90 x91 y90 y91); obtain ⟨x70, x71, _, _⟩ := cZ2 ⟨b7⟩; have x51 : w4.cell? ⟨w.heap.size, 1, none⟩ = some (.int .i64 a1_1) := (blk_cell b5 1).trans rfl; obtain ⟨x90, x91, y90, y91⟩ := cZ2 ⟨b9⟩))
     refine bodyPost_ret (settle_ret rfl rfl rfl (blk_put (cs := #[.int .i64 0, .int .i64 0]) (blk_put (cs := #[.int .i64 0, .int .i64 0]) b9 0 _ rfl) 1 _ rfl)) rfl ?_
     exact ⟨_, rfl, Kd.R_nil _ _ _ _ _, (hB0.setCell (p := ⟨w.heap.size + 1 + 1, 0, none⟩) (by simp; omega) _).setCell (p := ⟨w.heap.size + 1 + 1, 1, none⟩) (by simp; omega) _⟩
    rw [if_neg (by omega)] at h
    obtain ⟨out, hout, h⟩ := Option.bind_eq_some_iff.mp h
    obtain ⟨⟨p1, p2⟩, hp, h⟩ := Option.bind_eq_some_iff.mp h
    have hid : decide (i < 0) = false := decide_eq_false hib
    have hjd : decide (j < 0) = false := decide_eq_false hjb
    (refine (price_right.calls k A0 c0 l0 _ _ (Kd.C_below hr0 hB0) hc0 hb).mono ?_; rintro e w1 ⟨rfl, hd⟩; replace b5 := blk_below b5 hd; replace b7 := blk_below b7 hd; replace b9 := blk_below b9 hd; replace hB0 := below_step hB0 hd; clear hd; (try clear x70 x71 x51 x90 x91 y90 y91); obtain ⟨x70, x71, _, _⟩ := cZ2 ⟨b7⟩; have x51 : w1.cell? ⟨w.heap.size, 1, none⟩ = some (.int .i64 a1_1) := (blk_cell b5 1).trans rfl; obtain ⟨x90, x91, y90, y91⟩ := cZ2 ⟨b9⟩)
    go_wp2_with (first | (go_at_call 46; refine (rat_Valid.calls k a3_0 a3_1 _ _ hv).mono ?_; rintro e w2 ⟨rfl, hd⟩; replace b5 := blk_below b5 hd; replace b7 := blk_below b7 hd; replace b9 := blk_below b9 hd; replace hB0 := below_step hB0 hd; clear hd; (try clear x70 x71 x51 x90 x91 y90 y91); obtain ⟨x70, x71, _, _⟩ := cZ2 ⟨b7⟩; have x51 : w2.cell? ⟨w.heap.size, 1, none⟩ = some (.int .i64 a1_1) := (blk_cell b5 1).trans rfl; obtain ⟨x90, x91, y90, y91⟩ := cZ2 ⟨b9⟩) | (go_at_call 103; refine (price_at.calls A0 c0 l0 a1_1 i _ (Kd.C_below hr0 hB0) hc0 hi).mono ?_; rintro e w3 ⟨rfl, hd⟩; replace b5 := blk_below b5 hd; replace b7 := blk_below b7 hd; replace b9 := blk_below b9 hd; replace hB0 := below_step hB0 hd; clear hd; (try clear x70 x71 x51 x90 x91 y90 y91); obtain ⟨x70, x71, _, _⟩ := cZ2 ⟨b7⟩; have x51 : w3.cell? ⟨w.heap.size, 1, none⟩ = some (.int .i64 a1_1) := (blk_cell b5 1).trans rfl; obtain ⟨x90, x91, y90, y91⟩ := cZ2 ⟨b9⟩) | (go_at_call 103; refine (price_at.calls A0 c0 l0 a2 j _ (Kd.C_below hr0 hB0) hc0 hj).mono ?_; rintro e w4 ⟨rfl, hd⟩; replace b5 := blk_below b5 hd; replace b7 := blk_below b7 hd; replace b9 := blk_below b9 hd; replace hB0 := below_step hB0 hd; clear hd; (try clear x70 x71 x51 x90 x91 y90 y91); obtain ⟨x70, x71, _, _⟩ := cZ2 ⟨b7⟩; have x51 : w4.cell? ⟨w.heap.size, 1, none⟩ = some (.int .i64 a1_1) := (blk_cell b5 1).trans rfl; obtain ⟨x90, x91, y90, y91⟩ := cZ2 ⟨b9⟩))
    have hil : i.toNat < l0.length ∧ 0 ≤ i := by
     unfold price_at.f at hi
     split at hi
     ·have := Option.some.inj hi
      split at this <;> omega
     ·cases hi
    obtain ⟨ad, rfl, e0, e1, e2⟩ := cells60 hr0 hB0 i.toNat hil.1
    have hclone : l0 = out := by
     unfold api_Account_104.f at hout
     simp only [Option.bind_some] at hout
     split at hout
     ·simpa using hout
     ·cases hout
    subst hclone
    have hmx : Try.prog.follows .mixedOrders = true := by kernel_rfl
    have hmin := fun w' => rat_Min.calls (rd_T60 l0 i).f1.f0 (rd_T60 l0 i).f1.f1 a3_0 a3_1 p1 p2 w' hp
    replace hB0 := below_drew1 hB0
    replace b5 := blk_drew b5; replace b7 := blk_drew b7; replace b9 := blk_drew b9
    have hilz : i < (l0.length : Int) := by omega
    clear x90 x91 y90 y91
    refine start_ (n := 12) (S := fun W => W.cell? ⟨(ad.add (i.toNat * 3)).block, (ad.add (i.toNat * 3)).off + 1, none⟩ = some (.int .i64 (rd_T60 l0 i).f1.f0) ∧ W.cell? ⟨(ad.add (i.toNat * 3)).block, (ad.add (i.toNat * 3)).off + 2, none⟩ = some (.int .i64 (rd_T60 l0 i).f1.f1) ∧ W.cell? ⟨w.heap.size + 1, 0, none⟩ = some (.int .i64 a3_0) ∧ W.cell? ⟨w.heap.size + 1, 1, none⟩ = some (.int .i64 a3_1)) (ds := [11]) #[false, false, false, false, false, false, false, false, false, false, false, false] hmx rfl rfl ⟨e1, e2, x70, x71⟩ (fun hHeld => ?_)
    refine with_tabW price_Settle.tab6 price_Settle.bits6 (fun HT_ HW_ => ?_)
    clear e0 e1 e2 x70 x71 x51
    generalize w4.drew = w5 at hB0 b5 b7 b9 hHeld ⊢
    refine pX (i := 0) (N := some 47) rfl rfl HT_ ?_
    refine pX (i := 2) (N := some 49) rfl rfl HT_ ?_
    refine pX (i := 3) (N := some 50) rfl rfl HT_ ?_
    refine pX (i := 4) (N := some 51) rfl rfl HT_ ?_
    refine pX (i := 5) (N := some 52) rfl rfl HT_ ?_
    refine tX (i := 6) (N := some 53) rfl rfl HT_ HW_ hHeld (Or.inl ⟨by rfl, by rintro w' ⟨s0, s1, s2, s3⟩; go_simp; with_reducible rfl⟩) ?_
    refine tX (i := 7) (N := some 54) rfl rfl HT_ HW_ hHeld (Or.inl ⟨by rfl, by rintro w' ⟨s0, s1, s2, s3⟩; go_simp; with_reducible rfl⟩) ?_
    refine join_ (σ := Nat × Nat × Nat) 2 #[true, true, true, true, true, true, true, true, true, true, false, false] (fun s_ => [(48, .slice (some ⟨s_.1, 0, none⟩) l0.length s_.2.1), (55, .agg #[.int .i64 p1, .int .i64 p2]), (14, .pointer (some ⟨s_.2.2, 0, none⟩))]) (fun s_ W => Below w.heap.size w W ∧ W.heap[w.heap.size + 1 + 1]? = some (.cells #[.int .i64 0, .int .i64 0] 35 (0, 0)) ∧ W.heap[s_.2.2]? = some (.cells #[.int .i64 0, .int .i64 0] 35 (0, 0)) ∧ w.heap.size + 3 ≤ s_.2.2 ∧ Kd.R k60 60 W w.heap.size (fun _ => True) (.slice (some ⟨s_.1, 0, none⟩) l0.length s_.2.1) l0 ∧ w.heap.size ≤ s_.1 ∧ ∃ cs, W.heap[s_.1]? = some (.cells cs 60 (0, 0))) ?_ ?_
    rotate_left
    ·intro hCont
     refine two_ (i := 1) (j := 9) (Ni := some 48) (Nj := some 14) #[true, true, true, true, true, true, true, true, false, false, false, false] #[true, false, true, true, true, true, true, true, false, true, false, false] rfl rfl rfl rfl (two_of HT_.out (by kernel_rfl)) (by decide) (by decide) (fun K hK => ?_) (fun K hK => ?_)
     ·refine goes_ Try.func104 (by kernel_rfl) rfl #[.slice (some ad) l0.length c0] (by rfl) rfl rfl (by (try simp only [List.map_toArray, List.map_cons, List.map_nil]); first | done | rfl) ?_
      refine (api_Account_104.calls (some ad) c0 l0 l0 _ (Kd.C_below hr0 hB0) hc0 hout).mono ?_
      rintro e W1 ⟨v0, rfl, hR, hd⟩
      refine ⟨_, rfl, ?_⟩
      obtain ⟨go, co, rfl, hgo, hgo', cso, hcso⟩ := Kd.R_form hR (by omega)
      replace hR := Kd.R_lower hR hB0.size
      replace hgo := Nat.le_trans hB0.size hgo
      replace b5 := blk_below b5 hd; replace b7 := blk_below b7 hd; replace b9 := blk_below b9 hd; replace hB0 := below_step hB0 hd
      refine hK.out _ _ ⟨pw_cell_below hd hHeld.1, pw_cell_below hd hHeld.2.1, pw_cell_below hd hHeld.2.2.1, pw_cell_below hd hHeld.2.2.2⟩ (fun hHeld => ?_)
      clear hK K
      refine nX (some 48) ?_
      clear hd
      refine two_ (i := 8) (j := 9) (Ni := some 55) (Nj := some 14) #[true, true, true, true, true, true, true, true, true, false, false, false] #[true, true, true, true, true, true, true, true, false, true, false, false] rfl rfl rfl rfl (two_of HT_.out (by kernel_rfl)) (by decide) (by decide) (fun K hK => ?_) (fun K hK => ?_)
      ·refine goes_ Try.func52 (by kernel_rfl) rfl #[.agg #[.int .i64 (rd_T60 l0 i).f1.f0, .int .i64 (rd_T60 l0 i).f1.f1], .agg #[.int .i64 a3_0, .int .i64 a3_1]] (by rfl) rfl rfl (by (try simp only [List.map_toArray, List.map_cons, List.map_nil]); first | done | rfl) ?_
       refine (hmin _).mono ?_
       rintro e W2 ⟨rfl, hd⟩
       refine ⟨_, rfl, ?_⟩
       replace hR := Kd.R_below hR hd
       replace hcso := blk_below hcso hd
       replace b5 := blk_below b5 hd; replace b7 := blk_below b7 hd; replace b9 := blk_below b9 hd; replace hB0 := below_step hB0 hd
       refine hK.out _ _ ⟨pw_cell_below hd hHeld.1, pw_cell_below hd hHeld.2.1, pw_cell_below hd hHeld.2.2.1, pw_cell_below hd hHeld.2.2.2⟩ (fun hHeld => ?_)
       clear hK K
       refine nX (some 55) ?_
       clear hd
       refine oX (i := 9) (N := some 14) rfl rfl HT_ (fun K hK => ?_)
       refine box_step ?hg (N := 14) ?hd (cs := #[.int .i64 0, .int .i64 0]) (t := 35) ?hr ?_; (case hd => rfl); (case hg => rfl); (case hr => first | (go_simp; done) | (go_simp; rfl))
       intro gp hgp W3 hpp hd
       have hgp' : w.heap.size + 3 ≤ gp := by have := blk_lt b9; omega
       replace hR := Kd.R_below hR hd
       replace hcso := blk_below hcso hd
       replace b5 := blk_below b5 hd; replace b7 := blk_below b7 hd; replace b9 := blk_below b9 hd; replace hB0 := below_step hB0 hd
       refine hK.out _ _ ⟨pw_cell_below hd hHeld.1, pw_cell_below hd hHeld.2.1, pw_cell_below hd hHeld.2.2.1, pw_cell_below hd hHeld.2.2.2⟩ (fun hHeld => ?_)
       clear hK K
       refine nX (some 14) ?_
       clear hd
       exact norm_ (by simp only [putAll, Act.put, List.setIfInBounds_toArray, List.set_cons_zero, List.set_cons_succ]) (hCont (go, co, gp) _ ⟨hB0, b9, hpp, hgp', hR, hgo, _, hcso⟩)
      ·refine box_step ?hg (N := 14) ?hd (cs := #[.int .i64 0, .int .i64 0]) (t := 35) ?hr ?_; (case hd => rfl); (case hg => rfl); (case hr => first | (go_simp; done) | (go_simp; rfl))
       intro gp hgp W3 hpp hd
       have hgp' : w.heap.size + 3 ≤ gp := by have := blk_lt b9; omega
       replace hR := Kd.R_below hR hd
       replace hcso := blk_below hcso hd
       replace b5 := blk_below b5 hd; replace b7 := blk_below b7 hd; replace b9 := blk_below b9 hd; replace hB0 := below_step hB0 hd
       refine hK.out _ _ ⟨pw_cell_below hd hHeld.1, pw_cell_below hd hHeld.2.1, pw_cell_below hd hHeld.2.2.1, pw_cell_below hd hHeld.2.2.2⟩ (fun hHeld => ?_)
       clear hK K
       refine nX (some 14) ?_
       clear hd
       refine oX (i := 8) (N := some 55) rfl rfl HT_ (fun K hK => ?_)
       refine goes_ Try.func52 (by kernel_rfl) rfl #[.agg #[.int .i64 (rd_T60 l0 i).f1.f0, .int .i64 (rd_T60 l0 i).f1.f1], .agg #[.int .i64 a3_0, .int .i64 a3_1]] (by rfl) rfl rfl (by (try simp only [List.map_toArray, List.map_cons, List.map_nil]); first | done | rfl) ?_
       refine (hmin _).mono ?_
       rintro e W2 ⟨rfl, hd⟩
       refine ⟨_, rfl, ?_⟩
       have hpp := blk_below hpp hd
       replace hR := Kd.R_below hR hd
       replace hcso := blk_below hcso hd
       replace b5 := blk_below b5 hd; replace b7 := blk_below b7 hd; replace b9 := blk_below b9 hd; replace hB0 := below_step hB0 hd
       refine hK.out _ _ ⟨pw_cell_below hd hHeld.1, pw_cell_below hd hHeld.2.1, pw_cell_below hd hHeld.2.2.1, pw_cell_below hd hHeld.2.2.2⟩ (fun hHeld => ?_)
       clear hK K
       refine nX (some 55) ?_
       clear hd
       exact norm_ (by simp only [putAll, Act.put, List.setIfInBounds_toArray, List.set_cons_zero, List.set_cons_succ]) (hCont (go, co, gp) _ ⟨hB0, b9, hpp, hgp', hR, hgo, _, hcso⟩)
     ·refine box_step ?hg (N := 14) ?hd (cs := #[.int .i64 0, .int .i64 0]) (t := 35) ?hr ?_; (case hd => rfl); (case hg => rfl); (case hr => first | (go_simp; done) | (go_simp; rfl))
      intro gp hgp W3 hpp hd
      have hgp' : w.heap.size + 3 ≤ gp := by have := blk_lt b9; omega
      replace b5 := blk_below b5 hd; replace b7 := blk_below b7 hd; replace b9 := blk_below b9 hd; replace hB0 := below_step hB0 hd
      refine hK.out _ _ ⟨pw_cell_below hd hHeld.1, pw_cell_below hd hHeld.2.1, pw_cell_below hd hHeld.2.2.1, pw_cell_below hd hHeld.2.2.2⟩ (fun hHeld => ?_)
      clear hK K
      refine nX (some 14) ?_
      clear hd
      refine oX (i := 1) (N := some 48) rfl rfl HT_ (fun K hK => ?_)
      refine goes_ Try.func104 (by kernel_rfl) rfl #[.slice (some ad) l0.length c0] (by rfl) rfl rfl (by (try simp only [List.map_toArray, List.map_cons, List.map_nil]); first | done | rfl) ?_
      refine (api_Account_104.calls (some ad) c0 l0 l0 _ (Kd.C_below hr0 hB0) hc0 hout).mono ?_
      rintro e W1 ⟨v0, rfl, hR, hd⟩
      refine ⟨_, rfl, ?_⟩
      obtain ⟨go, co, rfl, hgo, hgo', cso, hcso⟩ := Kd.R_form hR (by omega)
      replace hR := Kd.R_lower hR hB0.size
      replace hgo := Nat.le_trans hB0.size hgo
      have hpp := blk_below hpp hd
      replace b5 := blk_below b5 hd; replace b7 := blk_below b7 hd; replace b9 := blk_below b9 hd; replace hB0 := below_step hB0 hd
      refine hK.out _ _ ⟨pw_cell_below hd hHeld.1, pw_cell_below hd hHeld.2.1, pw_cell_below hd hHeld.2.2.1, pw_cell_below hd hHeld.2.2.2⟩ (fun hHeld => ?_)
      clear hK K
      refine nX (some 48) ?_
      clear hd
      refine oX (i := 8) (N := some 55) rfl rfl HT_ (fun K hK => ?_)
      refine goes_ Try.func52 (by kernel_rfl) rfl #[.agg #[.int .i64 (rd_T60 l0 i).f1.f0, .int .i64 (rd_T60 l0 i).f1.f1], .agg #[.int .i64 a3_0, .int .i64 a3_1]] (by rfl) rfl rfl (by (try simp only [List.map_toArray, List.map_cons, List.map_nil]); first | done | rfl) ?_
      refine (hmin _).mono ?_
      rintro e W2 ⟨rfl, hd⟩
      refine ⟨_, rfl, ?_⟩
      have hpp := blk_below hpp hd
      replace hR := Kd.R_below hR hd
      replace hcso := blk_below hcso hd
      replace b5 := blk_below b5 hd; replace b7 := blk_below b7 hd; replace b9 := blk_below b9 hd; replace hB0 := below_step hB0 hd
      refine hK.out _ _ ⟨pw_cell_below hd hHeld.1, pw_cell_below hd hHeld.2.1, pw_cell_below hd hHeld.2.2.1, pw_cell_below hd hHeld.2.2.2⟩ (fun hHeld => ?_)
      clear hK K
      refine nX (some 55) ?_
      clear hd
      exact norm_ (by simp only [putAll, Act.put, List.setIfInBounds_toArray, List.set_cons_zero, List.set_cons_succ]) (hCont (go, co, gp) _ ⟨hB0, b9, hpp, hgp', hR, hgo, _, hcso⟩)
    clear hHeld b5 b7 b9 hB0 hmin
    rintro ⟨go, co, gp⟩ W6 ⟨hB6, b9, bp, hgp, hR, hgo, cso, hcso⟩
    dsimp only [putAll]
    refine norm_ (by simp only [Act.put, List.setIfInBounds_toArray, List.set_cons_zero, List.set_cons_succ]; rfl) ?_
    refine pX (i := 10) (N := some 13) rfl rfl HT_ ?_
    dsimp only at bp hgp hR hgo hcso
    have xp0 : W6.cell? ⟨gp, 0, none⟩ = some (.int .i64 0) := (blk_cell bp 0).trans rfl
    have xp1 : W6.cell? ⟨gp, 1, none⟩ = some (.int .i64 0) := (blk_cell bp 1).trans rfl
    have yp0 := blk_frozen bp 0
    have yp1 := blk_frozen bp 1
    refine last_ (i := 11) (N := none) #[true, true, true, true, true, true, true, true, true, true, true, true] rfl rfl (one_of HT_.out (by kernel_rfl)) (by decide) (fun K hK => ?_)
    refine skip_ (w1 := ?_) (by rfl) rfl ?_ ?_
    rotate_left
    ·go_simp
     rfl
    refine hK.out _ _ ?_
    clear hK K
    refine done_ (done_of HT_.out (by kernel_rfl)) ?_
    replace hR : Kd.R k60 60 ((W6.setCell ⟨gp, 0, none⟩ (.int .i64 p1)).setCell ⟨gp, 1, none⟩ (.int .i64 p2)) w.heap.size (fun _ => True) (.slice (some ⟨go, 0, none⟩) l0.length co) l0 := Kd.R_mono (Kd.R_far (p := ⟨gp, 1, none⟩) (Kd.R_far (p := ⟨gp, 0, none⟩) (Kd.R_types hR bp (by decide)) (fun _ hk => hk.2) (.int .i64 p1)) (fun _ hk => hk.2) (.int .i64 p2)) (fun _ hk => trivial)
    have hne : go ≠ gp := blk_ne hcso bp (by decide)
    have hcso := blk_far (blk_far hcso (p := ⟨gp, 0, none⟩) hne (.int .i64 p1)) (p := ⟨gp, 1, none⟩) hne (.int .i64 p2)
    replace b9 := blk_far (blk_far b9 (p := ⟨gp, 0, none⟩) (by simp; omega) (.int .i64 p1)) (p := ⟨gp, 1, none⟩) (by simp; omega) (.int .i64 p2)
    replace bp := blk_put (cs' := #[.int .i64 p1, .int .i64 p2]) (blk_put (cs' := #[.int .i64 p1, .int .i64 0]) bp 0 (.int .i64 p1) rfl) 1 (.int .i64 p2) rfl
    replace hB6 := (hB6.setCell (p := ⟨gp, 0, none⟩) (by simp; omega) (.int .i64 p1)).setCell (p := ⟨gp, 1, none⟩) (by simp; omega) (.int .i64 p2)
    clear xp0 xp1 yp0 yp1 HT_ HW_
    generalize (W6.setCell ⟨gp, 0, none⟩ (.int .i64 p1)).setCell ⟨gp, 1, none⟩ (.int .i64 p2) = W7 at hB6 b9 bp hR hcso ⊢
    have hu157 := Try.underlying157
    have hu85 := Try.underlying85
    go_wp2
    have bs := blk_new W7 (.cells #[.int .i64 i, .func (.func 48) #[] #[], .int .i64 j, .func (.func 50) #[] #[]] 157)
    replace b9 := blk_alloc b9 (.cells #[.int .i64 i, .func (.func 48) #[] #[], .int .i64 j, .func (.func 50) #[] #[]] 157)
    replace bp := blk_alloc bp (.cells #[.int .i64 i, .func (.func 48) #[] #[], .int .i64 j, .func (.func 50) #[] #[]] 157)
    replace hcso := blk_alloc hcso (.cells #[.int .i64 i, .func (.func 48) #[] #[], .int .i64 j, .func (.func 50) #[] #[]] 157)
    replace hR := Kd.R_alloc hR (.cells #[.int .i64 i, .func (.func 48) #[] #[], .int .i64 j, .func (.func 50) #[] #[]] 157)
    have hgs : w.heap.size ≤ W7.heap.size := hB6.size
    replace hB6 := hB6.alloc hgs (.cells #[.int .i64 i, .func (.func 48) #[] #[], .int .i64 j, .func (.func 50) #[] #[]] 157)
    generalize W7.alloc (.cells #[.int .i64 i, .func (.func 48) #[] #[], .int .i64 j, .func (.func 50) #[] #[]] 157) = W8 at hB6 b9 bp hR hcso bs ⊢
    generalize W7.heap.size = gs at bs hgs ⊢
    refine wp_loop_rounds 3 ?_
    rw [rounds_succ]
    have xs0 : W8.cell? ⟨gs, 0, none⟩ = some (.int .i64 i) := (blk_cell bs 0).trans rfl
    have xs1 : W8.cell? ⟨gs, 1, none⟩ = some (.func (.func 48) #[] #[]) := (blk_cell bs 1).trans rfl
    go_wp2
    unfold settleF at h
    obtain ⟨⟨b1, b2, b3⟩, hs, h⟩ := Option.bind_eq_some_iff.mp h
    dsimp only at h
    have bt := blk_new W8 (.cells #[.int .i64 i, .func (.func 48) #[] #[]] 157)
    replace b9 := blk_alloc b9 (.cells #[.int .i64 i, .func (.func 48) #[] #[]] 157)
    replace bp := blk_alloc bp (.cells #[.int .i64 i, .func (.func 48) #[] #[]] 157)
    replace bs := blk_alloc bs (.cells #[.int .i64 i, .func (.func 48) #[] #[]] 157)
    replace hcso := blk_alloc hcso (.cells #[.int .i64 i, .func (.func 48) #[] #[]] 157)
    replace hR := Kd.R_alloc hR (.cells #[.int .i64 i, .func (.func 48) #[] #[]] 157)
    have hgt : w.heap.size ≤ W8.heap.size := hB6.size
    replace hB6 := hB6.alloc hgt (.cells #[.int .i64 i, .func (.func 48) #[] #[]] 157)
    replace b9 := blk_drew b9
    replace bp := blk_drew bp
    replace bs := blk_drew bs
    replace hcso := blk_drew hcso
    replace bt := blk_drew bt
    replace hR := Kd.R_drew hR
    replace hB6 := below_drew1 hB6
    clear xs0 xs1
    obtain ⟨c, hcl, hM, hcc, hf⟩ := Kd.R_elem hR z60 i hil.2 hilz
    obtain rfl := k60_openM hM
    have r1 : ((W8.alloc (.cells #[.int .i64 i, .func (.func 48) #[] #[]] 157)).drew).cell? ⟨go, i.toNat * 3 + 1, none⟩ = some (.int .i64 (rd_T60 l0 i).f1.f0) := hcc 1 _ rfl
    have r2 : ((W8.alloc (.cells #[.int .i64 i, .func (.func 48) #[] #[]] 157)).drew).cell? ⟨go, i.toNat * 3 + 2, none⟩ = some (.int .i64 (rd_T60 l0 i).f1.f1) := hcc 2 _ rfl
    clear hcl hM hcc hf
    refine start_ (n := 16) (S := fun W => W.cell? ⟨W8.heap.size, 0, none⟩ = some (.int .i64 i) ∧ W.cell? ⟨W8.heap.size, 1, none⟩ = some (.func (.func 48) #[] #[]) ∧ W.cell? ⟨go, i.toNat * 3 + 1, none⟩ = some (.int .i64 (rd_T60 l0 i).f1.f0) ∧ W.cell? ⟨go, i.toNat * 3 + 2, none⟩ = some (.int .i64 (rd_T60 l0 i).f1.f1) ∧ W.cell? ⟨gp, 0, none⟩ = some (.int .i64 p1) ∧ W.cell? ⟨gp, 1, none⟩ = some (.int .i64 p2)) (ds := [14]) #[false, false, false, false, false, false, false, false, false, false, false, false, false, false, false, false] hmx rfl rfl ⟨(blk_cell bt 0).trans rfl, (blk_cell bt 1).trans rfl, r1, r2, (blk_cell bp 0).trans rfl, (blk_cell bp 1).trans rfl⟩ (fun hHeld => ?_)
    refine with_tabW price_Settle.tab10 price_Settle.bits10 (fun HT_ HW_ => ?_)
    clear r1 r2
    generalize (W8.alloc (.cells #[.int .i64 i, .func (.func 48) #[] #[]] 157)).drew = W10 at hB6 b9 bp bs hcso bt hR hHeld ⊢
    generalize W8.heap.size = gt at bt hgt hHeld ⊢
    refine pX (i := 0) (N := some 67) rfl rfl HT_ ?_
    refine pX (i := 2) (N := some 69) rfl rfl HT_ ?_
    refine pX (i := 3) (N := some 70) rfl rfl HT_ ?_
    refine tX (i := 1) (N := some 68) rfl rfl HT_ HW_ hHeld (Or.inl ⟨by rfl, by rintro w' ⟨s0, s1, s2, s3, s4, s5⟩; go_simp; with_reducible rfl⟩) ?_
    refine tX (i := 4) (N := some 71) rfl rfl HT_ HW_ hHeld (Or.inl ⟨by rfl, by rintro w' ⟨s0, s1, s2, s3, s4, s5⟩; go_simp; with_reducible rfl⟩) ?_
    refine pX (i := 5) (N := some 72) rfl rfl HT_ ?_
    refine pX (i := 6) (N := some 73) rfl rfl HT_ ?_
    refine tX (i := 7) (N := some 74) rfl rfl HT_ HW_ hHeld (Or.inl ⟨by rfl, by rintro w' ⟨s0, s1, s2, s3, s4, s5⟩; go_simp; with_reducible rfl⟩) ?_
    refine tX (i := 8) (N := some 75) rfl rfl HT_ HW_ hHeld (Or.inl ⟨by rfl, by rintro w' ⟨s0, s1, s2, s3, s4, s5⟩; go_simp; with_reducible rfl⟩) ?_
    refine join_ (σ := Nat) 2 #[true, true, true, true, true, true, true, true, true, true, true, true, true, true, false, false] (fun s_ => [(76, (.tuple #[.agg #[.int .i64 b1, .int .i64 b2], .int .i64 b3])), (66, (.tuple #[.agg #[.int .i64 b1, .int .i64 b2], .int .i64 b3])), (77, .agg #[.int .i64 b1, .int .i64 b2]), (78, .int .i64 b3), (17, .pointer (some ⟨s_, 0, none⟩))]) (fun s_ W => Below w.heap.size w W ∧ W.heap[w.heap.size + 1 + 1]? = some (.cells #[.int .i64 0, .int .i64 0] 35 (0, 0)) ∧ W.heap[gp]? = some (.cells #[.int .i64 p1, .int .i64 p2] 35 (0, 0)) ∧ W.heap[gs]? = some (.cells #[.int .i64 i, .func (.func 48) #[] #[], .int .i64 j, .func (.func 50) #[] #[]] 157 (0, 0)) ∧ W.heap[gt]? = some (.cells #[.int .i64 i, .func (.func 48) #[] #[]] 157 (0, 0)) ∧ W.heap[s_]? = some (.cells #[.int .i64 0, .int .i64 0] 35 (0, 0)) ∧ w.heap.size + 3 ≤ s_ ∧ gp ≠ s_ ∧ Kd.R k60 60 W w.heap.size (fun _ => True) (.slice (some ⟨go, 0, none⟩) l0.length co) l0 ∧ ∃ cs, W.heap[go]? = some (.cells cs 60 (0, 0))) ?_ ?_
    rotate_left
    ·intro hCont
     refine two_ (i := 9) (j := 13) (Ni := some 76) (Nj := some 17) #[true, true, true, true, true, true, true, true, true, true, false, false, false, false, false, false] #[true, true, true, true, true, true, true, true, true, false, false, false, false, true, false, false] rfl rfl rfl rfl (two_of HT_.out (by kernel_rfl)) (by decide) (by decide) (fun K hK => ?_) (fun K hK => ?_)
     ·refine goes_v Try.func48 (by kernel_rfl) rfl #[.agg #[(.int .i64 (rd_T60 l0 i).f1.f0), (.int .i64 (rd_T60 l0 i).f1.f1)], .agg #[.int .i64 p1, .int .i64 p2]] (.tmp 68) (by rfl) rfl rfl (by rfl) (by (try simp only [List.map_toArray, List.map_cons, List.map_nil]); first | done | rfl) ?_
      refine (rat_Sub.calls k (rd_T60 l0 i).f1.f0 (rd_T60 l0 i).f1.f1 p1 p2 b1 b2 b3 _ hs).mono ?_
      rintro e W11 ⟨rfl, hd⟩
      refine ⟨_, rfl, ?_⟩
      replace b9 := blk_below b9 hd; replace bp := blk_below bp hd; replace bs := blk_below bs hd; replace hcso := blk_below hcso hd; replace bt := blk_below bt hd; replace hR := Kd.R_below hR hd; replace hB6 := below_step hB6 hd
      refine hK.out _ _ ⟨pw_cell_below hd hHeld.1, pw_cell_below hd hHeld.2.1, pw_cell_below hd hHeld.2.2.1, pw_cell_below hd hHeld.2.2.2.1, pw_cell_below hd hHeld.2.2.2.2.1, pw_cell_below hd hHeld.2.2.2.2.2⟩ (fun hHeld => ?_)
      clear hK K
      refine nX (some 76) ?_
      clear hd
      refine pX (i := 10) (N := some 66) rfl rfl HT_ ?_
      refine pX (i := 11) (N := some 77) rfl rfl HT_ ?_
      refine pX (i := 12) (N := some 78) rfl rfl HT_ ?_
      refine oX (i := 13) (N := some 17) rfl rfl HT_ (fun K hK => ?_)
      refine box_step ?hg (N := 17) ?hd (cs := #[.int .i64 0, .int .i64 0]) (t := 35) ?hr ?_; (case hd => rfl); (case hg => rfl); (case hr => first | (go_simp; done) | (go_simp; rfl))
      intro gb hgb W12 bb hd
      have hgb' : w.heap.size + 3 ≤ gb := by have h1 := blk_lt b9; have h2 := blk_lt bp; omega
      have hgb2 : gp ≠ gb := by have h2 := blk_lt bp; omega
      replace b9 := blk_below b9 hd; replace bp := blk_below bp hd; replace bs := blk_below bs hd; replace hcso := blk_below hcso hd; replace bt := blk_below bt hd; replace hR := Kd.R_below hR hd; replace hB6 := below_step hB6 hd
      refine hK.out _ _ ⟨pw_cell_below hd hHeld.1, pw_cell_below hd hHeld.2.1, pw_cell_below hd hHeld.2.2.1, pw_cell_below hd hHeld.2.2.2.1, pw_cell_below hd hHeld.2.2.2.2.1, pw_cell_below hd hHeld.2.2.2.2.2⟩ (fun hHeld => ?_)
      clear hK K
      refine nX (some 17) ?_
      clear hd
      exact norm_ (by simp only [putAll, Act.put, List.setIfInBounds_toArray, List.set_cons_zero, List.set_cons_succ]) (hCont gb _ ⟨hB6, b9, bp, bs, bt, bb, hgb', hgb2, hR, _, hcso⟩)
     ·refine box_step ?hg (N := 17) ?hd (cs := #[.int .i64 0, .int .i64 0]) (t := 35) ?hr ?_; (case hd => rfl); (case hg => rfl); (case hr => first | (go_simp; done) | (go_simp; rfl))
      intro gb hgb W12 bb hd
      have hgb' : w.heap.size + 3 ≤ gb := by have h1 := blk_lt b9; have h2 := blk_lt bp; omega
      have hgb2 : gp ≠ gb := by have h2 := blk_lt bp; omega
      replace b9 := blk_below b9 hd; replace bp := blk_below bp hd; replace bs := blk_below bs hd; replace hcso := blk_below hcso hd; replace bt := blk_below bt hd; replace hR := Kd.R_below hR hd; replace hB6 := below_step hB6 hd
      refine hK.out _ _ ⟨pw_cell_below hd hHeld.1, pw_cell_below hd hHeld.2.1, pw_cell_below hd hHeld.2.2.1, pw_cell_below hd hHeld.2.2.2.1, pw_cell_below hd hHeld.2.2.2.2.1, pw_cell_below hd hHeld.2.2.2.2.2⟩ (fun hHeld => ?_)
      clear hK K
      refine nX (some 17) ?_
      clear hd
      refine oX (i := 9) (N := some 76) rfl rfl HT_ (fun K hK => ?_)
      refine goes_v Try.func48 (by kernel_rfl) rfl #[.agg #[(.int .i64 (rd_T60 l0 i).f1.f0), (.int .i64 (rd_T60 l0 i).f1.f1)], .agg #[.int .i64 p1, .int .i64 p2]] (.tmp 68) (by rfl) rfl rfl (by rfl) (by (try simp only [List.map_toArray, List.map_cons, List.map_nil]); first | done | rfl) ?_
      refine (rat_Sub.calls k (rd_T60 l0 i).f1.f0 (rd_T60 l0 i).f1.f1 p1 p2 b1 b2 b3 _ hs).mono ?_
      rintro e W11 ⟨rfl, hd⟩
      refine ⟨_, rfl, ?_⟩
      replace bb := blk_below bb hd
      replace b9 := blk_below b9 hd; replace bp := blk_below bp hd; replace bs := blk_below bs hd; replace hcso := blk_below hcso hd; replace bt := blk_below bt hd; replace hR := Kd.R_below hR hd; replace hB6 := below_step hB6 hd
      refine hK.out _ _ ⟨pw_cell_below hd hHeld.1, pw_cell_below hd hHeld.2.1, pw_cell_below hd hHeld.2.2.1, pw_cell_below hd hHeld.2.2.2.1, pw_cell_below hd hHeld.2.2.2.2.1, pw_cell_below hd hHeld.2.2.2.2.2⟩ (fun hHeld => ?_)
      clear hK K
      refine nX (some 76) ?_
      clear hd
      refine pX (i := 10) (N := some 66) rfl rfl HT_ ?_
      refine pX (i := 11) (N := some 77) rfl rfl HT_ ?_
      refine pX (i := 12) (N := some 78) rfl rfl HT_ ?_
      exact norm_ (by simp only [putAll, Act.put, List.setIfInBounds_toArray, List.set_cons_zero, List.set_cons_succ]) (hCont gb _ ⟨hB6, b9, bp, bs, bt, bb, hgb', hgb2, hR, _, hcso⟩)
    clear hHeld b9 bp bs bt hB6 hR hcso
    rintro gb W13 ⟨hB6, b9, bp, bs, bt, bb, hgb, hgb2, hR, cso, hcso⟩
    dsimp only [putAll]
    refine norm_ (by simp only [Act.put, List.setIfInBounds_toArray, List.set_cons_zero, List.set_cons_succ]; rfl) ?_
    have xp0 : W13.cell? ⟨gb, 0, none⟩ = some (.int .i64 0) := (blk_cell bb 0).trans rfl
    have xp1 : W13.cell? ⟨gb, 1, none⟩ = some (.int .i64 0) := (blk_cell bb 1).trans rfl
    have yp0 := blk_frozen bb 0
    have yp1 := blk_frozen bb 1
    refine last_ (i := 14) (N := none) #[true, true, true, true, true, true, true, true, true, true, true, true, true, true, true, false] rfl rfl (one_of HT_.out (by kernel_rfl)) (by decide) (fun K hK => ?_)
    refine skip_ (w1 := ?_) (by rfl) rfl ?_ ?_
    rotate_left
    ·go_simp
     rfl
    refine hK.out _ _ ?_
    clear hK K
    refine pX (i := 15) (N := some 18) rfl rfl HT_ ?_
    refine done_ (done_of HT_.out (by kernel_rfl)) ?_
    replace hR : Kd.R k60 60 ((W13.setCell ⟨gb, 0, none⟩ (.int .i64 b1)).setCell ⟨gb, 1, none⟩ (.int .i64 b2)) w.heap.size (fun _ => True) (.slice (some ⟨go, 0, none⟩) l0.length co) l0 := Kd.R_mono (Kd.R_far (p := ⟨gb, 1, none⟩) (Kd.R_far (p := ⟨gb, 0, none⟩) (Kd.R_types hR bb (by decide)) (fun _ hk => hk.2) (.int .i64 b1)) (fun _ hk => hk.2) (.int .i64 b2)) (fun _ hk => trivial)
    have hne : go ≠ gb := blk_ne hcso bb (by decide)
    have hnes : gs ≠ gb := blk_ne bs bb (by decide)
    have hnet : gt ≠ gb := blk_ne bt bb (by decide)
    replace hcso := blk_far (blk_far hcso (p := ⟨gb, 0, none⟩) hne (.int .i64 b1)) (p := ⟨gb, 1, none⟩) hne (.int .i64 b2)
    replace bs := blk_far (blk_far bs (p := ⟨gb, 0, none⟩) hnes (.int .i64 b1)) (p := ⟨gb, 1, none⟩) hnes (.int .i64 b2)
    replace bt := blk_far (blk_far bt (p := ⟨gb, 0, none⟩) hnet (.int .i64 b1)) (p := ⟨gb, 1, none⟩) hnet (.int .i64 b2)
    replace bp := blk_far (blk_far bp (p := ⟨gb, 0, none⟩) hgb2 (.int .i64 b1)) (p := ⟨gb, 1, none⟩) hgb2 (.int .i64 b2)
    replace b9 := blk_far (blk_far b9 (p := ⟨gb, 0, none⟩) (by simp; omega) (.int .i64 b1)) (p := ⟨gb, 1, none⟩) (by simp; omega) (.int .i64 b2)
    replace bb := blk_put (cs' := #[.int .i64 b1, .int .i64 b2]) (blk_put (cs' := #[.int .i64 b1, .int .i64 0]) bb 0 (.int .i64 b1) rfl) 1 (.int .i64 b2) rfl
    replace hB6 := (hB6.setCell (p := ⟨gb, 0, none⟩) (by simp; omega) (.int .i64 b1)).setCell (p := ⟨gb, 1, none⟩) (by simp; omega) (.int .i64 b2)
    clear xp0 xp1 yp0 yp1 HT_ HW_
    generalize (W13.setCell ⟨gb, 0, none⟩ (.int .i64 b1)).setCell ⟨gb, 1, none⟩ (.int .i64 b2) = W14 at hB6 b9 bp bs bt bb hR hcso ⊢
    by_cases hz : ¬ b3 = 0
    ·have hq : (b3 != 0) = true := by simp [hz]
     rw [if_neg hz] at h
     simp only [Option.some.injEq, Prod.mk.injEq] at h
     obtain ⟨rfl, rfl, rfl, rfl⟩ := h
     have x90 : W14.cell? ⟨w.heap.size + 1 + 1, 0, none⟩ = some (.int .i64 0) := (blk_cell b9 0).trans rfl
     have x91 : W14.cell? ⟨w.heap.size + 1 + 1, 1, none⟩ = some (.int .i64 0) := (blk_cell b9 1).trans rfl
     have y90 := blk_frozen b9 0
     have y91 := blk_frozen b9 1
     go_wp2
     refine bodyPost_ret (settle_ret rfl rfl rfl (blk_put (cs := #[.int .i64 0, .int .i64 0]) (blk_put (cs := #[.int .i64 0, .int .i64 0]) b9 0 _ rfl) 1 _ rfl)) rfl ?_
     exact ⟨_, rfl, Kd.R_nil _ _ _ _ _, (hB6.setCell (p := ⟨w.heap.size + 1 + 1, 0, none⟩) (by simp; omega) _).setCell (p := ⟨w.heap.size + 1 + 1, 1, none⟩) (by simp; omega) _⟩
    replace hz := Classical.not_not.mp hz
    subst hz
    rw [if_pos rfl] at h
    obtain ⟨c, hcl, hM, hcc, hf⟩ := Kd.R_elem hR z60 i hil.2 hilz
    obtain rfl := k60_openM hM
    have r1 : W14.cell? ⟨go, i.toNat * 3 + 1, none⟩ = some (.int .i64 (rd_T60 l0 i).f1.f0) := hcc 1 _ rfl
    have r2 : W14.cell? ⟨go, i.toNat * 3 + 2, none⟩ = some (.int .i64 (rd_T60 l0 i).f1.f1) := hcc 2 _ rfl
    have g1 : W14.frozen? ⟨go, i.toNat * 3 + 1, none⟩ = false := hf 1
    have g2 : W14.frozen? ⟨go, i.toNat * 3 + 2, none⟩ = false := hf 2
    clear hcl hM hcc hf
    have xt0 : W14.cell? ⟨gt, 0, none⟩ = some (.int .i64 i) := (blk_cell bt 0).trans rfl
    have xb0 : W14.cell? ⟨gb, 0, none⟩ = some (.int .i64 b1) := (blk_cell bb 0).trans rfl
    have xb1 : W14.cell? ⟨gb, 1, none⟩ = some (.int .i64 b2) := (blk_cell bb 1).trans rfl
    go_wp2
    rw [rounds_succ]
    clear r1 r2 g1 g2 xt0 xb0 xb1
    have hep : gp ≠ go := blk_ne bp hcso (by decide)
    have hes : gs ≠ go := blk_ne bs hcso (by decide)
    have he9 : w.heap.size + 1 + 1 ≠ go := blk_ne b9 hcso (by decide)
    replace hR := (bond_put hR i hil.2 hilz b1 b2).1
    replace hB6 := (hB6.setCell (p := ⟨go, i.toNat * 3 + 1, none⟩) (by simp; omega) (.int .i64 b1)).setCell (p := ⟨go, i.toNat * 3 + 2, none⟩) (by simp; omega) (.int .i64 b2)
    replace bp := blk_far (blk_far bp (p := ⟨go, i.toNat * 3 + 1, none⟩) hep (.int .i64 b1)) (p := ⟨go, i.toNat * 3 + 2, none⟩) hep (.int .i64 b2)
    replace bs := blk_far (blk_far bs (p := ⟨go, i.toNat * 3 + 1, none⟩) hes (.int .i64 b1)) (p := ⟨go, i.toNat * 3 + 2, none⟩) hes (.int .i64 b2)
    replace b9 := blk_far (blk_far b9 (p := ⟨go, i.toNat * 3 + 1, none⟩) he9 (.int .i64 b1)) (p := ⟨go, i.toNat * 3 + 2, none⟩) he9 (.int .i64 b2)
    replace hcso := blk_set (blk_set hcso (i.toNat * 3 + 1) (.int .i64 b1)) (i.toNat * 3 + 2) (.int .i64 b2)
    clear bt bb hnes hnet hne
    change Kd.R k60 60 _ _ _ _ (bondSet l0 i b1 b2) at hR
    generalize (W14.setCell ⟨go, i.toNat * 3 + 1, none⟩ (.int .i64 b1)).setCell ⟨go, i.toNat * 3 + 2, none⟩ (.int .i64 b2) = W15 at hB6 b9 bp bs hR hcso ⊢
    replace hcso := Exists.intro (p := fun cs => W15.heap[go]? = some (.cells cs 60 (0, 0))) _ hcso
    obtain ⟨cso, hcso⟩ := hcso
    have hjl : j.toNat < l0.length ∧ 0 ≤ j := by
     unfold price_at.f at hj
     split at hj
     ·have := Option.some.inj hj
      split at this <;> omega
     ·cases hj
    have hjlz : j < (l0.length : Int) := by omega
    have xs0 : W15.cell? ⟨gs, 2, none⟩ = some (.int .i64 j) := (blk_cell bs 2).trans rfl
    have xs1 : W15.cell? ⟨gs, 3, none⟩ = some (.func (.func 50) #[] #[]) := (blk_cell bs 3).trans rfl
    go_wp2
    obtain ⟨⟨b1', b2', b3'⟩, hs', h⟩ := Option.bind_eq_some_iff.mp h
    dsimp only at h hs'
    have bt := blk_new W15 (.cells #[.int .i64 j, .func (.func 50) #[] #[]] 157)
    replace b9 := blk_alloc b9 (.cells #[.int .i64 j, .func (.func 50) #[] #[]] 157)
    replace bp := blk_alloc bp (.cells #[.int .i64 j, .func (.func 50) #[] #[]] 157)
    replace bs := blk_alloc bs (.cells #[.int .i64 j, .func (.func 50) #[] #[]] 157)
    replace hcso := blk_alloc hcso (.cells #[.int .i64 j, .func (.func 50) #[] #[]] 157)
    replace hR := Kd.R_alloc hR (.cells #[.int .i64 j, .func (.func 50) #[] #[]] 157)
    have hgt : w.heap.size ≤ W15.heap.size := hB6.size
    replace hB6 := hB6.alloc hgt (.cells #[.int .i64 j, .func (.func 50) #[] #[]] 157)
    replace b9 := blk_drew b9
    replace bp := blk_drew bp
    replace bs := blk_drew bs
    replace hcso := blk_drew hcso
    replace bt := blk_drew bt
    replace hR := Kd.R_drew hR
    replace hB6 := below_drew1 hB6
    clear xs0 xs1
    obtain ⟨c', hcl', hM', hcc', hf'⟩ := Kd.R_elem hR z60 j hjl.2 hjlz
    obtain rfl := k60_openM hM'
    have r1 : ((W15.alloc (.cells #[.int .i64 j, .func (.func 50) #[] #[]] 157)).drew).cell? ⟨go, j.toNat * 3 + 1, none⟩ = some (.int .i64 (rd_T60 (bondSet l0 i b1 b2) j).f1.f0) := hcc' 1 _ rfl
    have r2 : ((W15.alloc (.cells #[.int .i64 j, .func (.func 50) #[] #[]] 157)).drew).cell? ⟨go, j.toNat * 3 + 2, none⟩ = some (.int .i64 (rd_T60 (bondSet l0 i b1 b2) j).f1.f1) := hcc' 2 _ rfl
    clear hcl' hM' hcc' hf'
    refine start_ (n := 16) (S := fun W => W.cell? ⟨W15.heap.size, 0, none⟩ = some (.int .i64 j) ∧ W.cell? ⟨W15.heap.size, 1, none⟩ = some (.func (.func 50) #[] #[]) ∧ W.cell? ⟨go, j.toNat * 3 + 1, none⟩ = some (.int .i64 (rd_T60 (bondSet l0 i b1 b2) j).f1.f0) ∧ W.cell? ⟨go, j.toNat * 3 + 2, none⟩ = some (.int .i64 (rd_T60 (bondSet l0 i b1 b2) j).f1.f1) ∧ W.cell? ⟨gp, 0, none⟩ = some (.int .i64 p1) ∧ W.cell? ⟨gp, 1, none⟩ = some (.int .i64 p2)) (ds := [14]) #[false, false, false, false, false, false, false, false, false, false, false, false, false, false, false, false] hmx rfl rfl ⟨(blk_cell bt 0).trans rfl, (blk_cell bt 1).trans rfl, r1, r2, (blk_cell bp 0).trans rfl, (blk_cell bp 1).trans rfl⟩ (fun hHeld => ?_)
    refine with_tabW price_Settle.tab10 price_Settle.bits10 (fun HT_ HW_ => ?_)
    clear r1 r2
    generalize (W15.alloc (.cells #[.int .i64 j, .func (.func 50) #[] #[]] 157)).drew = W10' at hB6 b9 bp bs hcso bt hR hHeld ⊢
    generalize W15.heap.size = gt' at bt hgt hHeld ⊢
    refine pX (i := 0) (N := some 67) rfl rfl HT_ ?_
    refine pX (i := 2) (N := some 69) rfl rfl HT_ ?_
    refine pX (i := 3) (N := some 70) rfl rfl HT_ ?_
    refine tX (i := 1) (N := some 68) rfl rfl HT_ HW_ hHeld (Or.inl ⟨by rfl, by rintro w' ⟨s0, s1, s2, s3, s4, s5⟩; go_simp; with_reducible rfl⟩) ?_
    refine tX (i := 4) (N := some 71) rfl rfl HT_ HW_ hHeld (Or.inl ⟨by rfl, by rintro w' ⟨s0, s1, s2, s3, s4, s5⟩; go_simp; with_reducible rfl⟩) ?_
    refine pX (i := 5) (N := some 72) rfl rfl HT_ ?_
    refine pX (i := 6) (N := some 73) rfl rfl HT_ ?_
    refine tX (i := 7) (N := some 74) rfl rfl HT_ HW_ hHeld (Or.inl ⟨by rfl, by rintro w' ⟨s0, s1, s2, s3, s4, s5⟩; go_simp; with_reducible rfl⟩) ?_
    refine tX (i := 8) (N := some 75) rfl rfl HT_ HW_ hHeld (Or.inl ⟨by rfl, by rintro w' ⟨s0, s1, s2, s3, s4, s5⟩; go_simp; with_reducible rfl⟩) ?_
    refine join_ (σ := Nat) 2 #[true, true, true, true, true, true, true, true, true, true, true, true, true, true, false, false] (fun s_ => [(76, (.tuple #[.agg #[.int .i64 b1', .int .i64 b2'], .int .i64 b3'])), (66, (.tuple #[.agg #[.int .i64 b1', .int .i64 b2'], .int .i64 b3'])), (77, .agg #[.int .i64 b1', .int .i64 b2']), (78, .int .i64 b3'), (17, .pointer (some ⟨s_, 0, none⟩))]) (fun s_ W => Below w.heap.size w W ∧ W.heap[w.heap.size + 1 + 1]? = some (.cells #[.int .i64 0, .int .i64 0] 35 (0, 0)) ∧ W.heap[gp]? = some (.cells #[.int .i64 p1, .int .i64 p2] 35 (0, 0)) ∧ W.heap[gs]? = some (.cells #[.int .i64 i, .func (.func 48) #[] #[], .int .i64 j, .func (.func 50) #[] #[]] 157 (0, 0)) ∧ W.heap[gt']? = some (.cells #[.int .i64 j, .func (.func 50) #[] #[]] 157 (0, 0)) ∧ W.heap[s_]? = some (.cells #[.int .i64 0, .int .i64 0] 35 (0, 0)) ∧ w.heap.size + 3 ≤ s_ ∧ gp ≠ s_ ∧ Kd.R k60 60 W w.heap.size (fun _ => True) (.slice (some ⟨go, 0, none⟩) l0.length co) (bondSet l0 i b1 b2) ∧ ∃ cs, W.heap[go]? = some (.cells cs 60 (0, 0))) ?_ ?_
    rotate_left
    ·intro hCont
     refine two_ (i := 9) (j := 13) (Ni := some 76) (Nj := some 17) #[true, true, true, true, true, true, true, true, true, true, false, false, false, false, false, false] #[true, true, true, true, true, true, true, true, true, false, false, false, false, true, false, false] rfl rfl rfl rfl (two_of HT_.out (by kernel_rfl)) (by decide) (by decide) (fun K hK => ?_) (fun K hK => ?_)
     ·refine goes_v Try.func50 (by kernel_rfl) rfl #[.agg #[(.int .i64 (rd_T60 (bondSet l0 i b1 b2) j).f1.f0), (.int .i64 (rd_T60 (bondSet l0 i b1 b2) j).f1.f1)], .agg #[.int .i64 p1, .int .i64 p2]] (.tmp 68) (by rfl) rfl rfl (by rfl) (by (try simp only [List.map_toArray, List.map_cons, List.map_nil]); first | done | rfl) ?_
      refine (rat_Add.calls k (rd_T60 (bondSet l0 i b1 b2) j).f1.f0 (rd_T60 (bondSet l0 i b1 b2) j).f1.f1 p1 p2 b1' b2' b3' _ hs').mono ?_
      rintro e W11 ⟨rfl, hd⟩
      refine ⟨_, rfl, ?_⟩
      replace b9 := blk_below b9 hd; replace bp := blk_below bp hd; replace bs := blk_below bs hd; replace hcso := blk_below hcso hd; replace bt := blk_below bt hd; replace hR := Kd.R_below hR hd; replace hB6 := below_step hB6 hd
      refine hK.out _ _ ⟨pw_cell_below hd hHeld.1, pw_cell_below hd hHeld.2.1, pw_cell_below hd hHeld.2.2.1, pw_cell_below hd hHeld.2.2.2.1, pw_cell_below hd hHeld.2.2.2.2.1, pw_cell_below hd hHeld.2.2.2.2.2⟩ (fun hHeld => ?_)
      clear hK K
      refine nX (some 76) ?_
      clear hd
      refine pX (i := 10) (N := some 66) rfl rfl HT_ ?_
      refine pX (i := 11) (N := some 77) rfl rfl HT_ ?_
      refine pX (i := 12) (N := some 78) rfl rfl HT_ ?_
      refine oX (i := 13) (N := some 17) rfl rfl HT_ (fun K hK => ?_)
      refine box_step ?hg (N := 17) ?hd (cs := #[.int .i64 0, .int .i64 0]) (t := 35) ?hr ?_; (case hd => rfl); (case hg => rfl); (case hr => first | (go_simp; done) | (go_simp; rfl))
      intro gb hgb W12 bb hd
      have hgb' : w.heap.size + 3 ≤ gb := by have h1 := blk_lt b9; have h2 := blk_lt bp; omega
      have hgb2 : gp ≠ gb := by have h2 := blk_lt bp; omega
      replace b9 := blk_below b9 hd; replace bp := blk_below bp hd; replace bs := blk_below bs hd; replace hcso := blk_below hcso hd; replace bt := blk_below bt hd; replace hR := Kd.R_below hR hd; replace hB6 := below_step hB6 hd
      refine hK.out _ _ ⟨pw_cell_below hd hHeld.1, pw_cell_below hd hHeld.2.1, pw_cell_below hd hHeld.2.2.1, pw_cell_below hd hHeld.2.2.2.1, pw_cell_below hd hHeld.2.2.2.2.1, pw_cell_below hd hHeld.2.2.2.2.2⟩ (fun hHeld => ?_)
      clear hK K
      refine nX (some 17) ?_
      clear hd
      exact norm_ (by simp only [putAll, Act.put, List.setIfInBounds_toArray, List.set_cons_zero, List.set_cons_succ]) (hCont gb _ ⟨hB6, b9, bp, bs, bt, bb, hgb', hgb2, hR, _, hcso⟩)
     ·refine box_step ?hg (N := 17) ?hd (cs := #[.int .i64 0, .int .i64 0]) (t := 35) ?hr ?_; (case hd => rfl); (case hg => rfl); (case hr => first | (go_simp; done) | (go_simp; rfl))
      intro gb hgb W12 bb hd
      have hgb' : w.heap.size + 3 ≤ gb := by have h1 := blk_lt b9; have h2 := blk_lt bp; omega
      have hgb2 : gp ≠ gb := by have h2 := blk_lt bp; omega
      replace b9 := blk_below b9 hd; replace bp := blk_below bp hd; replace bs := blk_below bs hd; replace hcso := blk_below hcso hd; replace bt := blk_below bt hd; replace hR := Kd.R_below hR hd; replace hB6 := below_step hB6 hd
      refine hK.out _ _ ⟨pw_cell_below hd hHeld.1, pw_cell_below hd hHeld.2.1, pw_cell_below hd hHeld.2.2.1, pw_cell_below hd hHeld.2.2.2.1, pw_cell_below hd hHeld.2.2.2.2.1, pw_cell_below hd hHeld.2.2.2.2.2⟩ (fun hHeld => ?_)
      clear hK K
      refine nX (some 17) ?_
      clear hd
      refine oX (i := 9) (N := some 76) rfl rfl HT_ (fun K hK => ?_)
      refine goes_v Try.func50 (by kernel_rfl) rfl #[.agg #[(.int .i64 (rd_T60 (bondSet l0 i b1 b2) j).f1.f0), (.int .i64 (rd_T60 (bondSet l0 i b1 b2) j).f1.f1)], .agg #[.int .i64 p1, .int .i64 p2]] (.tmp 68) (by rfl) rfl rfl (by rfl) (by (try simp only [List.map_toArray, List.map_cons, List.map_nil]); first | done | rfl) ?_
      refine (rat_Add.calls k (rd_T60 (bondSet l0 i b1 b2) j).f1.f0 (rd_T60 (bondSet l0 i b1 b2) j).f1.f1 p1 p2 b1' b2' b3' _ hs').mono ?_
      rintro e W11 ⟨rfl, hd⟩
      refine ⟨_, rfl, ?_⟩
      replace bb := blk_below bb hd
      replace b9 := blk_below b9 hd; replace bp := blk_below bp hd; replace bs := blk_below bs hd; replace hcso := blk_below hcso hd; replace bt := blk_below bt hd; replace hR := Kd.R_below hR hd; replace hB6 := below_step hB6 hd
      refine hK.out _ _ ⟨pw_cell_below hd hHeld.1, pw_cell_below hd hHeld.2.1, pw_cell_below hd hHeld.2.2.1, pw_cell_below hd hHeld.2.2.2.1, pw_cell_below hd hHeld.2.2.2.2.1, pw_cell_below hd hHeld.2.2.2.2.2⟩ (fun hHeld => ?_)
      clear hK K
      refine nX (some 76) ?_
      clear hd
      refine pX (i := 10) (N := some 66) rfl rfl HT_ ?_
      refine pX (i := 11) (N := some 77) rfl rfl HT_ ?_
      refine pX (i := 12) (N := some 78) rfl rfl HT_ ?_
      exact norm_ (by simp only [putAll, Act.put, List.setIfInBounds_toArray, List.set_cons_zero, List.set_cons_succ]) (hCont gb _ ⟨hB6, b9, bp, bs, bt, bb, hgb', hgb2, hR, _, hcso⟩)
    clear hHeld b9 bp bs bt hB6 hR hcso
    rintro gb W13 ⟨hB6, b9, bp, bs, bt, bb, hgb, hgb2, hR, cso, hcso⟩
    dsimp only [putAll]
    refine norm_ (by simp only [Act.put, List.setIfInBounds_toArray, List.set_cons_zero, List.set_cons_succ]; rfl) ?_
    have xp0 : W13.cell? ⟨gb, 0, none⟩ = some (.int .i64 0) := (blk_cell bb 0).trans rfl
    have xp1 : W13.cell? ⟨gb, 1, none⟩ = some (.int .i64 0) := (blk_cell bb 1).trans rfl
    have yp0 := blk_frozen bb 0
    have yp1 := blk_frozen bb 1
    refine last_ (i := 14) (N := none) #[true, true, true, true, true, true, true, true, true, true, true, true, true, true, true, false] rfl rfl (one_of HT_.out (by kernel_rfl)) (by decide) (fun K hK => ?_)
    refine skip_ (w1 := ?_) (by rfl) rfl ?_ ?_
    rotate_left
    ·go_simp
     rfl
    refine hK.out _ _ ?_
    clear hK K
    refine pX (i := 15) (N := some 18) rfl rfl HT_ ?_
    refine done_ (done_of HT_.out (by kernel_rfl)) ?_
    replace hR : Kd.R k60 60 ((W13.setCell ⟨gb, 0, none⟩ (.int .i64 b1')).setCell ⟨gb, 1, none⟩ (.int .i64 b2')) w.heap.size (fun _ => True) (.slice (some ⟨go, 0, none⟩) l0.length co) (bondSet l0 i b1 b2) := Kd.R_mono (Kd.R_far (p := ⟨gb, 1, none⟩) (Kd.R_far (p := ⟨gb, 0, none⟩) (Kd.R_types hR bb (by decide)) (fun _ hk => hk.2) (.int .i64 b1')) (fun _ hk => hk.2) (.int .i64 b2')) (fun _ hk => trivial)
    have hne : go ≠ gb := blk_ne hcso bb (by decide)
    have hnes : gs ≠ gb := blk_ne bs bb (by decide)
    have hnet : gt' ≠ gb := blk_ne bt bb (by decide)
    replace hcso := blk_far (blk_far hcso (p := ⟨gb, 0, none⟩) hne (.int .i64 b1')) (p := ⟨gb, 1, none⟩) hne (.int .i64 b2')
    replace bs := blk_far (blk_far bs (p := ⟨gb, 0, none⟩) hnes (.int .i64 b1')) (p := ⟨gb, 1, none⟩) hnes (.int .i64 b2')
    replace bt := blk_far (blk_far bt (p := ⟨gb, 0, none⟩) hnet (.int .i64 b1')) (p := ⟨gb, 1, none⟩) hnet (.int .i64 b2')
    replace bp := blk_far (blk_far bp (p := ⟨gb, 0, none⟩) hgb2 (.int .i64 b1')) (p := ⟨gb, 1, none⟩) hgb2 (.int .i64 b2')
    replace b9 := blk_far (blk_far b9 (p := ⟨gb, 0, none⟩) (by simp; omega) (.int .i64 b1')) (p := ⟨gb, 1, none⟩) (by simp; omega) (.int .i64 b2')
    replace bb := blk_put (cs' := #[.int .i64 b1', .int .i64 b2']) (blk_put (cs' := #[.int .i64 b1', .int .i64 0]) bb 0 (.int .i64 b1') rfl) 1 (.int .i64 b2') rfl
    replace hB6 := (hB6.setCell (p := ⟨gb, 0, none⟩) (by simp; omega) (.int .i64 b1')).setCell (p := ⟨gb, 1, none⟩) (by simp; omega) (.int .i64 b2')
    clear xp0 xp1 yp0 yp1 HT_ HW_
    generalize (W13.setCell ⟨gb, 0, none⟩ (.int .i64 b1')).setCell ⟨gb, 1, none⟩ (.int .i64 b2') = W14' at hB6 b9 bp bs bt bb hR hcso ⊢
    by_cases hz' : ¬ b3' = 0
    ·have hq' : (b3' != 0) = true := by simp [hz']
     rw [if_neg hz'] at h
     simp only [Option.some.injEq, Prod.mk.injEq] at h
     obtain ⟨rfl, rfl, rfl, rfl⟩ := h
     have x90 : W14'.cell? ⟨w.heap.size + 1 + 1, 0, none⟩ = some (.int .i64 0) := (blk_cell b9 0).trans rfl
     have x91 : W14'.cell? ⟨w.heap.size + 1 + 1, 1, none⟩ = some (.int .i64 0) := (blk_cell b9 1).trans rfl
     have y90 := blk_frozen b9 0
     have y91 := blk_frozen b9 1
     go_wp2
     refine bodyPost_ret (settle_ret rfl rfl rfl (blk_put (cs := #[.int .i64 0, .int .i64 0]) (blk_put (cs := #[.int .i64 0, .int .i64 0]) b9 0 _ rfl) 1 _ rfl)) rfl ?_
     exact ⟨_, rfl, Kd.R_nil _ _ _ _ _, (hB6.setCell (p := ⟨w.heap.size + 1 + 1, 0, none⟩) (by simp; omega) _).setCell (p := ⟨w.heap.size + 1 + 1, 1, none⟩) (by simp; omega) _⟩
    replace hz' := Classical.not_not.mp hz'
    subst hz'
    rw [if_pos rfl] at h
    obtain ⟨c', hcl', hM', hcc', hf'⟩ := Kd.R_elem hR z60 j hjl.2 hjlz
    obtain rfl := k60_openM hM'
    have r1 : W14'.cell? ⟨go, j.toNat * 3 + 1, none⟩ = some (.int .i64 (rd_T60 (bondSet l0 i b1 b2) j).f1.f0) := hcc' 1 _ rfl
    have r2 : W14'.cell? ⟨go, j.toNat * 3 + 2, none⟩ = some (.int .i64 (rd_T60 (bondSet l0 i b1 b2) j).f1.f1) := hcc' 2 _ rfl
    have g1 : W14'.frozen? ⟨go, j.toNat * 3 + 1, none⟩ = false := hf' 1
    have g2 : W14'.frozen? ⟨go, j.toNat * 3 + 2, none⟩ = false := hf' 2
    clear hcl' hM' hcc' hf'
    have xt0 : W14'.cell? ⟨gt', 0, none⟩ = some (.int .i64 j) := (blk_cell bt 0).trans rfl
    have xb0 : W14'.cell? ⟨gb, 0, none⟩ = some (.int .i64 b1') := (blk_cell bb 0).trans rfl
    have xb1 : W14'.cell? ⟨gb, 1, none⟩ = some (.int .i64 b2') := (blk_cell bb 1).trans rfl
    go_wp2
    rw [rounds_succ]
    clear r1 r2 g1 g2 xt0 xb0 xb1
    have hep : gp ≠ go := blk_ne bp hcso (by decide)
    have hes : gs ≠ go := blk_ne bs hcso (by decide)
    have he9 : w.heap.size + 1 + 1 ≠ go := blk_ne b9 hcso (by decide)
    replace hR := (bond_put hR j hjl.2 hjlz b1' b2').1
    replace hB6 := (hB6.setCell (p := ⟨go, j.toNat * 3 + 1, none⟩) (by simp; omega) (.int .i64 b1')).setCell (p := ⟨go, j.toNat * 3 + 2, none⟩) (by simp; omega) (.int .i64 b2')
    replace bp := blk_far (blk_far bp (p := ⟨go, j.toNat * 3 + 1, none⟩) hep (.int .i64 b1')) (p := ⟨go, j.toNat * 3 + 2, none⟩) hep (.int .i64 b2')
    replace bs := blk_far (blk_far bs (p := ⟨go, j.toNat * 3 + 1, none⟩) hes (.int .i64 b1')) (p := ⟨go, j.toNat * 3 + 2, none⟩) hes (.int .i64 b2')
    replace b9 := blk_far (blk_far b9 (p := ⟨go, j.toNat * 3 + 1, none⟩) he9 (.int .i64 b1')) (p := ⟨go, j.toNat * 3 + 2, none⟩) he9 (.int .i64 b2')
    replace hcso := blk_set (blk_set hcso (j.toNat * 3 + 1) (.int .i64 b1')) (j.toNat * 3 + 2) (.int .i64 b2')
    clear bt bb hnes hnet hne
    change Kd.R k60 60 _ _ _ _ (bondSet (bondSet l0 i b1 b2) j b1' b2') at hR
    generalize (W14'.setCell ⟨go, j.toNat * 3 + 1, none⟩ (.int .i64 b1')).setCell ⟨go, j.toNat * 3 + 2, none⟩ (.int .i64 b2') = W15' at hB6 b9 bp bs hR hcso ⊢
    replace hcso := Exists.intro (p := fun cs => W15'.heap[go]? = some (.cells cs 60 (0, 0))) _ hcso
    obtain ⟨cso, hcso⟩ := hcso
    simp only [Option.some.injEq, Prod.mk.injEq] at h
    obtain ⟨rfl, rfl, rfl, rfl⟩ := h
    have xp0 : W15'.cell? ⟨gp, 0, none⟩ = some (.int .i64 p1) := (blk_cell bp 0).trans rfl
    have xp1 : W15'.cell? ⟨gp, 1, none⟩ = some (.int .i64 p2) := (blk_cell bp 1).trans rfl
    have x90 : W15'.cell? ⟨w.heap.size + 1 + 1, 0, none⟩ = some (.int .i64 0) := (blk_cell b9 0).trans rfl
    have x91 : W15'.cell? ⟨w.heap.size + 1 + 1, 1, none⟩ = some (.int .i64 0) := (blk_cell b9 1).trans rfl
    have y90 := blk_frozen b9 0
    have y91 := blk_frozen b9 1
    go_wp2
    go_region
    go_wp2
    refine bodyPost_ret (settle_ret (n := p1) (d := p2) rfl rfl rfl (blk_drew (blk_put (cs' := #[.int .i64 p1, .int .i64 p2]) (blk_put (cs' := #[.int .i64 p1, .int .i64 0]) b9 0 _ rfl) 1 _ rfl))) rfl ?_
    exact ⟨_, rfl, Kd.R_drew (Kd.R_mono (Kd.R_far (p := ⟨w.heap.size + 1 + 1, 1, none⟩) (Kd.R_far (p := ⟨w.heap.size + 1 + 1, 0, none⟩) (Kd.R_types hR b9 (by decide)) (fun _ hk => hk.2) _) (fun _ hk => hk.2) _) (fun _ _ => trivial)), below_drew1 ((hB6.setCell (p := ⟨w.heap.size + 1 + 1, 0, none⟩) (by simp; omega) _).setCell (p := ⟨w.heap.size + 1 + 1, 1, none⟩) (by simp; omega) _)⟩
    end Go.Proofs.Ytohnkcmbogcfhaa.P
namespace Go.Proofs.Ytohnkcmbogcfhaa.P
open Go.Proofs.YtohnkcmbogcfhaaH Go.RowKit Go.Proofs.YtohnkcmbogcfhaaW.PrintWords Go.Proofs.YtohnkcmbogcfhaaW.PrintLast Go.Proofs.YtohnkcmbogcfhaaW.PrintMore
attribute [local go_sem] max2_int min2_int max_two min_two max_three min_three max_four min_four   -- for this text's walks alone
attribute [local go_sem] Go.Proofs.YtohnkcmbogcfhaaH.cell_set_map
def parolelaw42_settle.f (k : Nat) (l0 : List (S60)) (a1_0 : Int) (a1_1 : Int) (a1_2 : Int) (a1_3 : Int) (a2 : Int) (a3_0 : Int) (a3_1 : Int) : Option ((List (S60)) × Int × Int × Int) := (price_Settle.f k l0 a1_0 a1_1 a1_2 a1_3 a2 a3_0 a3_1).bind fun bt104 => (some (bt104.1, bt104.2.1, bt104.2.2.1, bt104.2.2.2))
set_option maxHeartbeats 40000000 in
set_option maxRecDepth 100000 in
theorem parolelaw42_settle.calls (k : Nat) (A0 : Option Addr) (c0 : Nat) (l0 : List (S60)) (a1_0 : Int) (a1_1 : Int) (a1_2 : Int) (a1_3 : Int) (a2 : Int) (a3_0 : Int) (a3_1 : Int) (r1 : List (S60)) (r2 : Int) (r3 : Int) (r4 : Int) (w : World) (hr0 : Kd.C k60 w A0 l0.length l0) (hc0 : l0.length ≤ c0) (h : parolelaw42_settle.f k l0 a1_0 a1_1 a1_2 a1_3 a2 a3_0 a3_1 = some (r1, r2, r3, r4)) :
  Calls Try.prog 45 #[.slice A0 l0.length c0, .agg #[.int .i64 a1_0, .int .i64 a1_1, .int .i64 a1_2, .int .i64 a1_3], .int .i64 a2, .agg #[.int .i64 a3_0, .int .i64 a3_1]] w fun e w' => ∃ v0_ : Value, e = .returned (.agg #[v0_, .int .i64 r2, .int .i64 r3, .int .i64 r4]) ∧ Kd.R k60 60 w' w.heap.size (fun _ => True) v0_ r1 ∧ Below w.heap.size w w' := by
 have hu78 := Try.underlying78; have hu35 := Try.underlying35; have hu56 := Try.underlying56; have HR0 := aM hr0; have HC0 := aM hc0; clear hr0 hc0; have HB := aM (Below.refl w.heap.size w)
 have H : ((price_Settle.f k l0 a1_0 a1_1 a1_2 a1_3 a2 a3_0 a3_1).bind fun bt104 => (some (bt104.1, bt104.2.1, bt104.2.2.1, bt104.2.2.2))) = some (r1, r2, r3, r4) := h
 clear h; replace H := Option.bind_eq_some_iff.mp H
 obtain ⟨⟨t104, t107, t108, t109⟩, A50, H⟩ := H
 replace H : (some (t104, t107, t108, t109)) = some (r1, r2, r3, r4) := H
 have A5 := aM A50; clear A50
 simp only [Option.some.injEq, Prod.mk.injEq] at H
 obtain ⟨rfl, rfl, rfl, rfl⟩ := H
 go_enter Try.func45, Try.ntmps45
 go_wp2_with (first | ((with_reducible refine gate_dst (N := 5) rfl ?_); refine bE (N := 5) (cs := #[.int .i64 a1_0, .int .i64 a1_1, .int .i64 a1_2, .int .i64 a1_3]) (t := 78) ?_; intro gb101 hg w6 hbox hb; have BK101 := aM (hbox); have GW101 := gE hg HB; have GE101 := gE hg HB; replace HB := sB HB hb; clear hb hbox hg) | ((with_reducible refine gate_dst (N := 7) rfl ?_); refine bE (N := 7) (cs := #[.int .i64 a3_0, .int .i64 a3_1]) (t := 35) ?_; intro gb102 hg w7 hbox hb; have BK102 := aM (hbox); have GW102 := gE hg HB; have GE102 := gE hg HB; have NB101_102 := nL hg BK101; replace BK101 := bB BK101 hb; replace HB := sB HB hb; clear hb hbox hg) | ((with_reducible refine gate_dst (N := 8) rfl ?_); refine bE (N := 8) (cs := #[.slice none 0 0, .int .i64 0, .int .i64 0, .int .i64 0]) (t := 56) ?_; intro gb103 hg w8 hbox hb; have BK103 := aM (hbox); have GW103 := gE hg HB; have GE103 := gE hg HB; have NB101_103 := nL hg BK101; have NB102_103 := nL hg BK102; replace BK101 := bB BK101 hb; replace BK102 := bB BK102 hb; replace HB := sB HB hb; clear hb hbox hg; have hnb9 := NB101_102.out; have hnc9 := NB101_102.out.symm; have hnb10 := NB101_103.out; have hnc10 := NB101_103.out.symm; obtain ⟨hcz11_0, hcz11_1, hcz11_2, hcz11_3, hfz11_0, hfz11_1, hfz11_2, hfz11_3⟩ := cZ4 BK101; have hnb12 := NB102_103.out; have hnc12 := NB102_103.out.symm; obtain ⟨hcz13_0, hcz13_1, hfz13_0, hfz13_1⟩ := cZ2 BK102) | ((with_reducible refine gate_callee (f := 70) rfl ?_); refine gL (some 17) Try.func70 #[.slice A0 l0.length c0, .agg #[.int .i64 a1_0, .int .i64 a1_1, .int .i64 a1_2, .int .i64 a1_3], .int .i64 a2, .agg #[.int .i64 a3_0, .int .i64 a3_1]] ?_; (with_reducible refine (price_Settle.calls k _ _ l0 a1_0 a1_1 a1_2 a1_3 a2 a3_0 a3_1 t104 t107 t108 t109 _ ?side1 ?side2 A5.out).mono ?_); (case side1 => exact cC HR0 HB); (case side2 => exact HC0.out); rintro e w14 ⟨v105, rfl, ho0, hb⟩; refine ⟨_, rfl, ?_⟩; have HO106 := rL (n := 0) ho0 HB; replace BK101 := bB BK101 hb; replace BK102 := bB BK102 hb; replace BK103 := bB BK103 hb; replace HB := sB HB hb; (try clear hb); (try clear ho0)) | ((with_reducible refine gate_dst (N := 10) rfl ?_); refine bE (N := 10) (cs := #[.int .i64 0, .int .i64 0]) (t := 35) ?_; intro gb110 hg w15 hbox hb; have BK110 := aM (hbox); have GW110 := gE hg HB; have GE110 := gE hg HB; have NB101_110 := nL hg BK101; have NB102_110 := nL hg BK102; have NB103_110 := nL hg BK103; replace HO106 := rB HO106 hb; replace BK101 := bB BK101 hb; replace BK102 := bB BK102 hb; replace BK103 := bB BK103 hb; replace HB := sB HB hb; clear hb hbox hg; have hnb16 := NB101_110.out.symm; have hnc16 := NB101_110.out; have hnb17 := NB102_110.out.symm; have hnc17 := NB102_110.out; have hnb18 := NB103_110.out.symm; have hnc18 := NB103_110.out; obtain ⟨hcz19_0, hcz19_1, hfz19_0, hfz19_1⟩ := cZ2 BK110; obtain ⟨Ao20, co20, eo20⟩ := Kd.R_slice HO106.out; subst eo20; obtain ⟨hcz21_0, hcz21_1, hcz21_2, hcz21_3, hfz21_0, hfz21_1, hfz21_2, hfz21_3⟩ := cZ4 BK103))
 refine bodyPost_ret (results_cell_row rfl _ _ gb103 56 #[.slice Ao20 t104.length co20, .int .i64 t107, .int .i64 t108, .int .i64 t109] (0, 0) _ rfl (by refine bM ?_; refine blk_put (cs := #[.slice Ao20 t104.length co20, .int .i64 t107, .int .i64 t108, .int .i64 0]) ?_ 3 _ rfl; refine bM ?_; refine blk_put (cs := #[.slice Ao20 t104.length co20, .int .i64 t107, .int .i64 0, .int .i64 0]) ?_ 2 _ rfl; refine bM ?_; refine blk_put (cs := #[.slice Ao20 t104.length co20, .int .i64 0, .int .i64 0, .int .i64 0]) ?_ 1 _ rfl; refine bM ?_; refine blk_put (cs := #[.slice none 0 0, .int .i64 0, .int .i64 0, .int .i64 0]) ?_ 0 _ rfl; refine bM ?_; refine blk_far ?_ NB103_110.out _; refine bM ?_; refine blk_far ?_ NB103_110.out _; exact bD BK103) Try.underlying56 rfl (by kernel_rfl)) rfl ?_
 exact ⟨_, by first | rfl | (simp [errW_none, errW_some] <;> rfl) | (simp [*, errW_none, errW_some] <;> rfl), by (with_reducible repeat (first | apply Kd.R_alloc | apply Kd.R_drewN | apply Kd.R_drew)); exact Kd.R_mono (Kd.R_far (p := ⟨gb103, 3, none⟩) (Kd.R_far (p := ⟨gb103, 2, none⟩) (Kd.R_far (p := ⟨gb103, 1, none⟩) (Kd.R_far (p := ⟨gb103, 0, none⟩) (Kd.R_far (p := ⟨gb110, 1, none⟩) (Kd.R_far (p := ⟨gb110, 0, none⟩) (Kd.R_types (Kd.R_types HO106.out BK110.out (by decide)) BK103.out (by decide)) (fun _ hk => hk.1.2) (.int .i64 t107)) (fun _ hk => hk.1.2) (.int .i64 t108)) (fun _ hk => hk.2) (.slice Ao20 t104.length co20)) (fun _ hk => hk.2) (.int .i64 t107)) (fun _ hk => hk.2) (.int .i64 t108)) (fun _ hk => hk.2) (.int .i64 t109)) (fun _ hk => trivial), sD HB⟩
end Go.Proofs.Ytohnkcmbogcfhaa.P

/- OddsLosses: losses add up, are at most the cost, and are greater after a right answer. The plain law. -/
import Derived.Test.YtohnkcmbogcfhaacOddsLosses9
import Derived.Deep.Slices
import Derived.WideShapes
import Derived.OpenShut
import Derived.ShutString
import Derived.ChangeOld
import Derived.SizedLaws
import Derived.Deep.OwnRows
import Derived.Laws.Rows
import Derived.Test.YtohnkcmbogcfhaaRows
set_option linter.unusedVariables false
set_option linter.unusedSimpArgs false
namespace Go.Proofs.Ytohnkcmbogcfhaa.R
open Go.RowKit Go.Proofs.Ytohnkcmbogcfhaa.P Go.Proofs.YtohnkcmbogcfhaaW.PrintWords Go.Proofs.YtohnkcmbogcfhaaW.PrintLast Go.Proofs.YtohnkcmbogcfhaaW.PrintMore
theorem red_unique (p q N D : Nat) (hD : 0 < D) (hq : 0 < q) (hg : Nat.gcd p q = 1) (h : p * D = N * q) : p = rn N D ∧ q = rd_ N D := by
 obtain ⟨e1, e2⟩ := red_eq N D
 have g0 : 0 < Nat.gcd N D := Nat.gcd_pos_of_pos_right N hD
 have hr := red_gcd N D hD
 have hd := rd_pos N D hD
 have hx : p * rd_ N D = rn N D * q := by
  have h' : (p * rd_ N D) * Nat.gcd N D = (rn N D * q) * Nat.gcd N D := by
   have k1 : (p * rd_ N D) * Nat.gcd N D = p * D := by rw [Nat.mul_assoc, ← e2]
   have k2 : (rn N D * q) * Nat.gcd N D = N * q := by
    conv => rhs; rw [e1]
    rw [Nat.mul_assoc, Nat.mul_comm q, ← Nat.mul_assoc]
   rw [k1, k2, h]
  exact Nat.eq_of_mul_eq_mul_right g0 h'
 have d1 : rd_ N D ∣ q := by
  have : rd_ N D ∣ rn N D * q := ⟨p, by rw [← hx, Nat.mul_comm]⟩
  exact Nat.Coprime.dvd_of_dvd_mul_left (Nat.Coprime.symm hr) this
 have d2 : q ∣ rd_ N D := by
  have : q ∣ p * rd_ N D := ⟨rn N D, by rw [hx, Nat.mul_comm]⟩
  exact Nat.Coprime.dvd_of_dvd_mul_left (Nat.Coprime.symm hg) this
 have e : q = rd_ N D := Nat.dvd_antisymm d2 d1
 refine ⟨?_, e⟩
 rw [← e] at hx
 exact Nat.eq_of_mul_eq_mul_right hq hx
theorem hi_small (m : Nat) (h : m ≤ 18446744073709551615) : hi m = 0 := by unfold hi; omega
theorem lo_small (m : Nat) (h : m ≤ 18446744073709551615) : lo m = (m : Int) := by unfold lo; omega
theorem quot_of (a g : Nat) (ha : a ≤ 4611686018427387904) : wrap64 (Int.tdiv (a : Int) (g : Int)) = ((a / g : Nat) : Int) := by
 have e : Int.tdiv (a : Int) (g : Int) = ((a / g : Nat) : Int) := rfl
 have h1 := Nat.div_le_self a g
 rw [e]
 generalize a / g = q at h1 ⊢
 exact wrap64_of (by omega) (by omega)
theorem times_nat (a b : Nat) (ha : a ≤ 4611686018427387904) (hb : b ≤ 4611686018427387904) : rat_times.f (a : Int) (b : Int) = some (false, hi (a * b), lo (a * b)) := by
 rw [times_of _ _ (by omega) (by omega) (by omega) (by omega), decide_eq_false (by omega), decide_eq_false (by omega), Int.natAbs_natCast, Int.natAbs_natCast]
 rfl
theorem made_hilo (a b : Nat) (ha : a ≤ 4611686018427387904) (hb : b ≤ 4611686018427387904) : Ev (fun k => rat_made.f k false (hi a) (lo a) false (hi b) (lo b)) ((a : Int), (b : Int), 0) := by
 rw [hi_small a (by omega), lo_small a (by omega), hi_small b (by omega), lo_small b (by omega)]
 exact made_small false a b ha hb
theorem div64_small (m d : Nat) (hm : m ≤ 18446744073709551615) (hd0 : 0 < d) (hd : d ≤ 18446744073709551615) : bits_Div64.f (Int.tmod (hi m) (d : Int)) (lo m) (d : Int) = some (((m / d : Nat) : Int), ((m % d : Nat) : Int)) := by
 rw [hi_small m hm, lo_small m hm]
 unfold bits_Div64.f
 rw [Int.zero_tmod, if_pos (by omega)]
 rfl
theorem over_small (m d : Nat) (hm : m ≤ 18446744073709551615) (hd0 : 0 < d) (hd : d ≤ 18446744073709551615) : rat_wide_over.f false (hi m) (lo m) (d : Int) = some (false, hi (m / d), lo (m / d)) := by
 unfold rat_wide_over.f
 rw [if_neg (by omega), div64_small m d hm hd0 hd]
 have h1 := Nat.div_le_self m d
 rw [hi_small m hm, Int.zero_tdiv, hi_small _ (Nat.le_trans h1 hm), lo_small _ (Nat.le_trans h1 hm)]
 rfl
theorem rem_small (m d : Nat) (hm : m ≤ 18446744073709551615) (hd0 : 0 < d) (hd : d ≤ 18446744073709551615) : bits_Rem64.f (hi m) (lo m) (d : Int) = some ((m % d : Nat) : Int) := by
 unfold bits_Rem64.f
 rw [if_neg (by omega), div64_small m d hm hd0 hd]
 rfl
theorem zero_of (s : Bool) (m : Nat) (hm : m ≤ 18446744073709551615) : rat_wide_zero.f s (hi m) (lo m) = some (decide (m = 0)) := by
 unfold rat_wide_zero.f
 rw [hi_small m hm, lo_small m hm, if_pos rfl]
 congr 1
 rw [Bool.eq_iff_iff]
 simp
theorem add_cancel (an bn d1 d2 g x' h' g' : Nat) (hx : an * d2 + bn * d1 = x' * h') (hg : g = g' * h') : x' * ((d1 * g) * (d2 * g)) = (an * (d2 * g) + bn * (d1 * g)) * (d1 * (d2 * g')) := by
 have e : an * (d2 * g) + bn * (d1 * g) = (an * d2 + bn * d1) * g := by grind
 rw [e, hx, hg]
 grind
/-- The last of Add: a sum that lies below 2^64. -/
theorem ev_addTail (an ad bn bd : Nat) (hd : ad ≤ 4611686018427387904) (he : bd ≤ 4611686018427387904) (d0 : 0 < ad) (e0 : 0 < bd) (ga : Nat.gcd an ad = 1) (gb : Nat.gcd bn bd = 1)
  (hx : an * (bd / Nat.gcd ad bd) + bn * (ad / Nat.gcd ad bd) ≤ 18446744073709551615) (hN : rn (an * bd + bn * ad) (ad * bd) ≤ 4611686018427387904) (hD : rd_ (an * bd + bn * ad) (ad * bd) ≤ 4611686018427387904)
  (ha : an ≤ 4611686018427387904) (hb : bn ≤ 4611686018427387904) :
  Ev (fun k => rat_Add.f k (an : Int) (ad : Int) (bn : Int) (bd : Int)) ((rn (an * bd + bn * ad) (ad * bd) : Int), (rd_ (an * bd + bn * ad) (ad * bd) : Int), 0) := by
 unfold rat_Add.f
 rw [u64_of (n := (ad : Int)) (by omega) (by omega), u64_of (n := (bd : Int)) (by omega) (by omega)]
 refine Ev.bind (gcd2 ad bd) ?_
 have g0 : 0 < Nat.gcd ad bd := Nat.gcd_pos_of_pos_right _ e0
 have gl : Nat.gcd ad bd ≤ bd := Nat.le_of_dvd e0 (Nat.gcd_dvd_right _ _)
 rw [wrap64_of (n := (Nat.gcd ad bd : Int)) (by omega) (by omega)]
 refine Ev.neg (by omega) ?_
 simp only [quot_of ad _ hd, quot_of bd _ he]
 have q1 : ad / Nat.gcd ad bd * Nat.gcd ad bd = ad := Nat.div_mul_cancel (Nat.gcd_dvd_left _ _)
 have q2 : bd / Nat.gcd ad bd * Nat.gcd ad bd = bd := Nat.div_mul_cancel (Nat.gcd_dvd_right _ _)
 have c12 : Nat.Coprime (ad / Nat.gcd ad bd) (bd / Nat.gcd ad bd) := Nat.coprime_div_gcd_div_gcd g0
 have l1 := Nat.div_le_self ad (Nat.gcd ad bd)
 have l2 := Nat.div_le_self bd (Nat.gcd ad bd)
 have v3 : Nat.gcd ad bd ∣ bd := Nat.gcd_dvd_right _ _
 generalize ad / Nat.gcd ad bd = d1 at *
 generalize bd / Nat.gcd ad bd = d2 at *
 generalize Nat.gcd ad bd = g at *
 refine Ev.cbind (times_nat an d2 ha (by omega)) (Ev.cbind (times_nat bn d1 hb (by omega)) (Ev.cbind (plus_of false false (an * d2) (bn * d1) (by omega) (by omega)) ?_))
 simp only [if_true]
 have X0 : ∀ X, an * d2 + bn * d1 = X → X ≤ 18446744073709551615 := fun X h => by omega
 refine Ev.cbind (zero_of _ _ hx) ?_
 have hfold : an * bd + bn * ad = (an * d2 + bn * d1) * g := by rw [← q1, ← q2]; grind
 by_cases hz : an * d2 + bn * d1 = 0
 ·refine Ev.pos (decide_eq_true hz) (Ev.cbind rfl ?_)
  rw [hfold, hz, Nat.zero_mul]
  unfold rn rd_
  rw [Nat.gcd_zero_left, Nat.zero_div, Nat.div_self (Nat.mul_pos d0 e0)]
  exact Ev.now _
 refine Ev.neg (by simpa using hz) (Ev.cbind (rem_small _ g hx g0 (by omega)) (Ev.bind (gcd2 _ g) ?_))
 have hgx : Nat.gcd ((an * d2 + bn * d1) % g) g = Nat.gcd (an * d2 + bn * d1) g := by
  rw [Nat.gcd_comm (an * d2 + bn * d1) g, Nat.gcd_rec g (an * d2 + bn * d1)]
 rw [hgx]
 have h0 : 0 < Nat.gcd (an * d2 + bn * d1) g := Nat.gcd_pos_of_pos_right _ g0
 have hl : Nat.gcd (an * d2 + bn * d1) g ≤ g := Nat.le_of_dvd g0 (Nat.gcd_dvd_right _ _)
 refine Ev.cbind (over_small _ _ hx h0 (by omega)) ?_
 rw [wrap64_of (n := (Nat.gcd (an * d2 + bn * d1) g : Int)) (by omega) (by omega)]
 refine Ev.neg (by omega) ?_
 rw [quot_of bd _ he]
 have r1 : (an * d2 + bn * d1) / Nat.gcd (an * d2 + bn * d1) g * Nat.gcd (an * d2 + bn * d1) g = an * d2 + bn * d1 := Nat.div_mul_cancel (Nat.gcd_dvd_left _ _)
 have r2 : g / Nat.gcd (an * d2 + bn * d1) g * Nat.gcd (an * d2 + bn * d1) g = g := Nat.div_mul_cancel (Nat.gcd_dvd_right _ _)
 have r3 : bd / Nat.gcd (an * d2 + bn * d1) g = d2 * (g / Nat.gcd (an * d2 + bn * d1) g) := by
  rw [← q2]
  exact Nat.mul_div_assoc d2 (Nat.gcd_dvd_right _ _)
 have cxg : Nat.Coprime ((an * d2 + bn * d1) / Nat.gcd (an * d2 + bn * d1) g) (g / Nat.gcd (an * d2 + bn * d1) g) := Nat.coprime_div_gcd_div_gcd h0
 have gp : 0 < g / Nat.gcd (an * d2 + bn * d1) g := Nat.div_pos hl h0
 have l3 := Nat.div_le_self bd (Nat.gcd (an * d2 + bn * d1) g)
 have d10 : 0 < d1 := Nat.pos_of_ne_zero (fun h => by rw [h, Nat.zero_mul] at q1; omega)
 have d20 : 0 < d2 := Nat.pos_of_ne_zero (fun h => by rw [h, Nat.zero_mul] at q2; omega)
 -- the sum has nothing in common with d1 and d2
 have ca : Nat.Coprime an d1 := Nat.Coprime.coprime_dvd_right ⟨g, q1.symm⟩ ga
 have cb : Nat.Coprime bn d2 := Nat.Coprime.coprime_dvd_right ⟨g, q2.symm⟩ gb
 have cx1 : Nat.Coprime (an * d2 + bn * d1) d1 := by
  have : Nat.Coprime (an * d2) d1 := Nat.Coprime.mul_left ca (Nat.Coprime.symm c12)
  unfold Nat.Coprime at this ⊢
  rw [Nat.gcd_add_mul_right_left]
  exact this
 have cx2 : Nat.Coprime (an * d2 + bn * d1) d2 := by
  have : Nat.Coprime (bn * d1) d2 := Nat.Coprime.mul_left cb c12
  unfold Nat.Coprime at this ⊢
  rw [Nat.add_comm, Nat.gcd_add_mul_right_left]
  exact this
 rw [r3]
 rw [r3] at l3
 generalize hX : (an * d2 + bn * d1) / Nat.gcd (an * d2 + bn * d1) g = x' at *
 generalize hG : g / Nat.gcd (an * d2 + bn * d1) g = g' at *
 generalize Nat.gcd (an * d2 + bn * d1) g = h' at *
 have vx : x' ∣ an * d2 + bn * d1 := ⟨h', r1.symm⟩
 have cc : Nat.gcd x' (d1 * (d2 * g')) = 1 := Nat.Coprime.mul_right (Nat.Coprime.coprime_dvd_left vx cx1) (Nat.Coprime.mul_right (Nat.Coprime.coprime_dvd_left vx cx2) cxg)
 have hu : x' * (ad * bd) = (an * bd + bn * ad) * (d1 * (d2 * g')) := by
  have := add_cancel an bn d1 d2 g x' h' g' r1.symm r2.symm
  rw [q1, q2] at this
  exact this
 obtain ⟨u1, u2⟩ := red_unique x' (d1 * (d2 * g')) (an * bd + bn * ad) (ad * bd) (Nat.mul_pos d0 e0) (Nat.mul_pos d10 (Nat.mul_pos d20 gp)) cc hu
 rw [← u1] at hN
 rw [← u2] at hD
 rw [← u1, ← u2]
 exact Ev.cbind (times_nat d1 (d2 * g') (by omega) (by omega)) (Ev.bind (made_hilo _ _ hN hD) (Ev.now _))
end Go.Proofs.Ytohnkcmbogcfhaa.R
namespace Go.Proofs.Ytohnkcmbogcfhaa.R
open Go.RowKit Go.Proofs.Ytohnkcmbogcfhaa.P Go.Proofs.YtohnkcmbogcfhaaW.PrintWords Go.Proofs.YtohnkcmbogcfhaaW.PrintLast Go.Proofs.YtohnkcmbogcfhaaW.PrintMore
theorem red_cross (N D : Nat) : rn N D * D = N * rd_ N D := by
 obtain ⟨e1, e2⟩ := red_eq N D
 have k1 : rn N D * D = rn N D * (rd_ N D * Nat.gcd N D) := by rw [← e2]
 have k2 : N * rd_ N D = (rn N D * Nat.gcd N D) * rd_ N D := by rw [← e1]
 rw [k1, k2, Nat.mul_assoc, Nat.mul_comm (rd_ N D)]
theorem rd_dvd (N D : Nat) : rd_ N D ∣ D := ⟨Nat.gcd N D, (red_eq N D).2⟩
theorem lcm_part (a b M : Nat) (hM : 0 < M) (ha : a ∣ M) (hb : b ∣ M) : ∃ m, 0 < m ∧ M = a * (b / Nat.gcd a b) * m := by
 have h : Nat.lcm a b ∣ M := Nat.lcm_dvd ha hb
 have e : Nat.lcm a b = a * (b / Nat.gcd a b) := by
  unfold Nat.lcm
  exact Nat.mul_div_assoc a (Nat.gcd_dvd_right a b)
 rw [e] at h
 obtain ⟨m, hm⟩ := h
 exact ⟨m, Nat.pos_of_ne_zero (fun h0 => by rw [h0, Nat.mul_zero] at hm; omega), hm⟩
theorem loss_cross (X c d T an ad bn bd mn md : Nat) (hT : 0 < T) (F1 : an * T = X * c * ad) (F2 : bn * T = X * d * bd) (F3 : mn * T = X * (c + d) * md) : mn * (ad * bd) = (an * bd + bn * ad) * md := by
 have s1 : (an * bd + bn * ad) * md * T = (an * T) * (bd * md) + (bn * T) * (ad * md) := by grind
 have s2 : mn * (ad * bd) * T = (mn * T) * (ad * bd) := by grind
 have s3 : X * c * ad * (bd * md) + X * d * bd * (ad * md) = X * (c + d) * md * (ad * bd) := by grind
 have s4 : mn * (ad * bd) * T = (an * bd + bn * ad) * md * T := by
  rw [s2, F3, s1, F1, F2, s3]
 exact Nat.eq_of_mul_eq_mul_right hT s4
/-- Sums of losses: numbers stay small. -/
theorem loss_small (Z T a b n : Nat) (hT : 0 < T) (ha : a ∣ T) (hb : b ∣ T) (h : n * T = Z * a) : n * (b / Nat.gcd a b) ≤ Z := by
 obtain ⟨m, m0, hm⟩ := lcm_part a b T hT ha hb
 have a0 : 0 < a := Nat.pos_of_ne_zero (fun h0 => by rw [h0, Nat.zero_mul, Nat.zero_mul] at hm; omega)
 rw [hm] at h
 have h2 : (n * (b / Nat.gcd a b) * m) * a = Z * a := by
  rw [← h]
  generalize b / Nat.gcd a b = u
  grind
 have h3 := Nat.eq_of_mul_eq_mul_right a0 h2
 rw [← h3]
 exact Nat.le_mul_of_pos_right _ m0
end Go.Proofs.Ytohnkcmbogcfhaa.R
namespace Go.Proofs.Ytohnkcmbogcfhaa.Pure
open Go.RowKit Go.Proofs.Ytohnkcmbogcfhaa.P Go.Proofs.Ytohnkcmbogcfhaa.R Go.Proofs.YtohnkcmbogcfhaaW.PrintWords Go.Proofs.YtohnkcmbogcfhaaW.PrintLast
theorem kind_ofL (n : Int) (h : 0 ≤ n ∧ n ≤ 255) : wrap64 (1 + (wrap64 (Int.tmod n 14))) = 1 + n % 14 ∧ 1 ≤ 1 + n % 14 ∧ 1 + n % 14 ≤ 14 := by
 have e2 : n.tmod 14 = n % 14 := Int.tmod_eq_emod_of_nonneg h.1
 rw [e2, wrap64_of (n := n % 14) (by omega) (by omega), wrap64_of (by omega) (by omega)]
 omega
theorem cost_of (n : Int) (h : 0 ≤ n ∧ n ≤ 4294967295) : ∃ c : Nat, c < 1048576 ∧ wrap64 (Int.tmod n 1048576) = (c : Int) := by
 obtain ⟨m, rfl⟩ := Int.eq_ofNat_of_zero_le h.1
 refine ⟨m % 1048576, Nat.mod_lt _ (by omega), ?_⟩
 have e : Int.tmod (m : Int) 1048576 = ((m % 1048576 : Nat) : Int) := rfl
 rw [e, wrap64_of (by omega) (by omega)]
theorem ev_lossL (l : List S71) (h : Book l) (k : Int) (hk : -9223372036854775808 ≤ k ∧ k ≤ 9223372036854775807) (cost : Nat) (hc : cost ≤ 1073741824) : Ev (fun n => parolelaw37_loss.f n l k (cost : Int)) ((rn ((cr l k + 1) * cost) (cr l k + cw l k + 2) : Int), (rd_ ((cr l k + 1) * cost) (cr l k + cw l k + 2) : Int), 0) := by
 unfold parolelaw37_loss.f
 exact Ev.bind (ev_LossB l h k hk cost hc) (Ev.now _)
theorem OddsLosses : parolelaw37_OddsLosses.Pure := by
 intro l0 a1 a2_0 a2_1 h0 h1 h2
 refine Ev.rounds (g := fun k => parolelaw37_OddsLosses.f k l0 a1 a2_0 a2_1) ?_
 unfold parolelaw37_OddsLosses.f
 refine Ev.cbind rfl (Ev.pos rfl (Ev.ite (fun _ => Ev.now _) (fun hlen => ?_)))
 have hr : ∀ x ∈ l0, raw x := fun x hx => raw_of (h0.2 x hx)
 obtain ⟨ek, hk⟩ := kind_ofL a1 (wf_u8 h1)
 obtain ⟨c, hc, ec⟩ := cost_of a2_0 (wf_u32 h2.1)
 obtain ⟨d, hd, ed⟩ := cost_of a2_1 (wf_u32 h2.2)
 have hB := made_book l0 hr
 have ecd : wrap64 ((c : Int) + (d : Int)) = ((c + d : Nat) : Int) := by rw [wrap64_of (by omega) (by omega)]; omega
 rw [ek, ec, ed, ecd]
 refine Ev.bind (ev_Made l0 (by omega) hr) ?_
 generalize madeL l0 = l at hB ⊢
 generalize 1 + a1 % 14 = k at hk ⊢
 have hcr := cr_le l hB k
 refine Ev.bind (ev_lossL l hB k (by omega) c (by omega)) (Ev.bind (ev_lossL l hB k (by omega) d (by omega)) (Ev.bind (ev_lossL l hB k (by omega) (c + d) (by omega)) ?_))
 have stepX : ∀ c : Nat, c ≤ 2097152 → (cr l k + 1) * c ≤ 1073741825 * 2097152 := fun c h => Nat.mul_le_mul (by omega) h
 have m1 := stepX c (by omega)
 have m2 := stepX d (by omega)
 have m3 := stepX (c + d) (by omega)
 have T0 : 0 < cr l k + cw l k + 2 := by omega
 have fc := red_cross ((cr l k + 1) * c) (cr l k + cw l k + 2)
 have fd := red_cross ((cr l k + 1) * d) (cr l k + cw l k + 2)
 have fm := red_cross ((cr l k + 1) * (c + d)) (cr l k + cw l k + 2)
 have gc := red_gcd ((cr l k + 1) * c) (cr l k + cw l k + 2) T0
 have gd := red_gcd ((cr l k + 1) * d) (cr l k + cw l k + 2) T0
 have gm := red_gcd ((cr l k + 1) * (c + d)) (cr l k + cw l k + 2) T0
 have vc := rd_dvd ((cr l k + 1) * c) (cr l k + cw l k + 2)
 have vd := rd_dvd ((cr l k + 1) * d) (cr l k + cw l k + 2)
 have pc := rd_pos ((cr l k + 1) * c) (cr l k + cw l k + 2) T0
 have pd := rd_pos ((cr l k + 1) * d) (cr l k + cw l k + 2) T0
 have pm := rd_pos ((cr l k + 1) * (c + d)) (cr l k + cw l k + 2) T0
 have lc := rd_le ((cr l k + 1) * c) (cr l k + cw l k + 2)
 have ld := rd_le ((cr l k + 1) * d) (cr l k + cw l k + 2)
 have lm := rd_le ((cr l k + 1) * (c + d)) (cr l k + cw l k + 2)
 have nc := rn_le ((cr l k + 1) * c) (cr l k + cw l k + 2)
 have nd := rn_le ((cr l k + 1) * d) (cr l k + cw l k + 2)
 have nm := rn_le ((cr l k + 1) * (c + d)) (cr l k + cw l k + 2)
 have hsum : Ev (fun n => rat_Add.f n (rn ((cr l k + 1) * c) (cr l k + cw l k + 2) : Int) (rd_ ((cr l k + 1) * c) (cr l k + cw l k + 2) : Int) (rn ((cr l k + 1) * d) (cr l k + cw l k + 2) : Int) (rd_ ((cr l k + 1) * d) (cr l k + cw l k + 2) : Int))
   ((rn ((cr l k + 1) * (c + d)) (cr l k + cw l k + 2) : Int), (rd_ ((cr l k + 1) * (c + d)) (cr l k + cw l k + 2) : Int), 0) := by
  have hx1 := loss_small ((cr l k + 1) * c) (cr l k + cw l k + 2) _ _ _ T0 vc vd fc
  have hx2 := loss_small ((cr l k + 1) * d) (cr l k + cw l k + 2) _ _ _ T0 vd vc fd
  rw [Nat.gcd_comm (rd_ ((cr l k + 1) * d) (cr l k + cw l k + 2))] at hx2
  have hcross := loss_cross (cr l k + 1) c d (cr l k + cw l k + 2) _ _ _ _ _ _ T0 fc fd fm
  generalize rn ((cr l k + 1) * c) (cr l k + cw l k + 2) = an at *
  generalize rd_ ((cr l k + 1) * c) (cr l k + cw l k + 2) = ad at *
  generalize rn ((cr l k + 1) * d) (cr l k + cw l k + 2) = bn at *
  generalize rd_ ((cr l k + 1) * d) (cr l k + cw l k + 2) = bd at *
  generalize rn ((cr l k + 1) * (c + d)) (cr l k + cw l k + 2) = mn at *
  generalize rd_ ((cr l k + 1) * (c + d)) (cr l k + cw l k + 2) = md at *
  obtain ⟨u1, u2⟩ := red_unique mn md (an * bd + bn * ad) (ad * bd) (Nat.mul_pos pc pd) pm gm hcross
  rw [u1, u2]
  exact ev_addTail an ad bn bd (by omega) (by omega) pc pd gc gd (by omega) (by rw [← u1]; omega) (by rw [← u2]; omega) (by omega) (by omega)
 refine Ev.bind hsum (Ev.pos rfl (Ev.pos rfl (Ev.pos rfl (Ev.pos rfl (Ev.neg (by simp) ?_)))))
 -- at most the cost
 obtain ⟨z, hz, hcmp⟩ : ∃ z, decide (z > (0 : Int)) = false ∧ rat_Cmp.f (rn ((cr l k + 1) * c) (cr l k + cw l k + 2) : Int) (rd_ ((cr l k + 1) * c) (cr l k + cw l k + 2) : Int) (c : Int) 1 = some z := by
  have hq := cmp_nat (rn ((cr l k + 1) * c) (cr l k + cw l k + 2)) (rd_ ((cr l k + 1) * c) (cr l k + cw l k + 2)) c 1 (by omega) (by omega) (by omega) (by omega)
  by_cases c0 : c = 0
  ·refine ⟨0, rfl, ?_⟩
   subst c0
   have z1 : rn ((cr l k + 1) * 0) (cr l k + cw l k + 2) = 0 := by rw [Nat.mul_zero]; unfold rn; simp
   have z2 : rd_ ((cr l k + 1) * 0) (cr l k + cw l k + 2) = 1 := by rw [Nat.mul_zero]; unfold rd_; rw [Nat.gcd_zero_left, Nat.div_self T0]
   rw [z1, z2] at hq ⊢
   rw [if_pos ⟨rfl, rfl⟩] at hq
   exact hq
  ·refine ⟨-1, rfl, ?_⟩
   have hlt := (cross_lt ((cr l k + 1) * c) (cr l k + cw l k + 2) c 1 T0 (by omega)).2 (by
    rw [Nat.mul_one, Nat.mul_comm]
    exact Nat.mul_lt_mul_of_pos_left (by omega) (by omega))
   have r1 : rn c 1 = c := by unfold rn; simp
   have r2 : rd_ c 1 = 1 := by unfold rd_; simp
   rw [r1, r2] at hlt
   rw [if_neg (fun he => by rw [he.1, he.2] at hlt; omega), if_pos hlt] at hq
   exact hq
 refine Ev.cbind hcmp ?_
 rw [hz]
 refine Ev.succ ?_
 simp only [parolelaw37_OddsLosses.j0]
 have hA := ans_book k hk true
 have hl : Ev (fun n => parolelaw37_learned.f n l k true) (joinR l [ans k true]) := by
  unfold parolelaw37_learned.f
  have hln := sorted_length l hB.1
  have := ev_Learn l k true (by omega)
  rw [learnR_of l k hk] at this
  exact Ev.bind this (Ev.now _)
 refine Ev.neg (by decide) (Ev.bind hl ?_)
 have stop : ∀ x0 x1 x2 xs e, Ev (fun n => parolelaw37_OddsLosses.j1 n true k (c : Int) true x0 x1 x2 xs e) true := by
  intro x0 x1 x2 xs e
  refine Ev.succ ?_
  simp only [parolelaw37_OddsLosses.j1]
  exact Ev.pos trivial (Ev.now _)
 rcases joinR_cases l [ans k true] hB hA with ⟨e, _⟩ | ⟨e, hJ⟩
 ·rw [e]
  exact Ev.neg (by decide) (stop _ _ _ _ _)
 rw [e]
 refine Ev.pos rfl ?_
 by_cases c0 : c = 0
 ·rw [show ((c : Int) == 0) = true by simp; omega]
  exact stop _ _ _ _ _
 rw [show ((c : Int) == 0) = false by simp; omega]
 obtain ⟨j1, j2⟩ := join_cr l [ans k true] hB hA k
 obtain ⟨s1, s2⟩ := cr_ans k k true
 simp only [and_self, if_true, Bool.true_eq_false, and_false, if_false] at s1 s2
 rw [s1] at j1
 rw [s2] at j2
 have hcr' := cr_le _ hJ k
 generalize joinL l [ans k true] = l' at hJ j1 j2 hcr' ⊢
 have m4 : (cr l' k + 1) * c ≤ 1073741825 * 2097152 := Nat.mul_le_mul (by omega) (by omega)
 refine Ev.succ ?_
 simp only [parolelaw37_OddsLosses.j1]
 refine Ev.neg (by decide) (Ev.bind (ev_lossL l' hJ k (by omega) c (by omega)) (Ev.pos rfl (Ev.cbind (cmp_more _ _ _ _ (by omega) (by omega) (by omega) (by omega) (by omega) (by omega) ?_) (Ev.pos rfl (Ev.now _)))))
 rw [j1, j2]
 generalize cr l k = a at *
 generalize cw l k = b at *
 have e1 : (a + 1 + 1) * c * (a + b + 2) = (a + 1) * c * (a + 1 + (b + 0) + 2) + c * (b + 1) := by grind
 rw [e1]
 exact Nat.lt_add_of_pos_right (Nat.mul_pos (by omega) (by omega))
end Go.Proofs.Ytohnkcmbogcfhaa.Pure
namespace Go.Proofs.YtohnkcmbogcfhaaH
open Go.RowKit Go.Proofs.YtohnkcmbogcfhaaW.PrintWords
variable {P : Program}
/-- What can be read as_ a value of type t is a value of kind d, and g holds of it. -/
def Opens (P : Program) (t : TypeId) {α : Type} (d : Kd α) (g : α → Prop) : Prop :=
 ∀ {H : Type} (enc : TypeId × Value → H) (W : World) (sp : Nat → Bool) (fuel : Nat) (cs : List Value) (x : DataW H × List MemPlace), DataW.trod enc P W 0 sp true fuel t cs = some x → ∃ y, d.K W y cs ∧ g y
theorem opens_int {t : TypeId} {k : IntKind} (ht : P.underlying t = some (.int k)) : Opens P t (Kd.int k) (fun n => (Lit.int k n).wf = true) := by
 intro H enc W sp fuel cs x h
 obtain ⟨n, rfl, _, hw⟩ := DataW.trod_int ht h
 exact ⟨n, rfl, hw⟩
theorem opens_slice {t e : TypeId} {α : Type} {d : Kd α} {g : α → Prop} (ht : P.underlying t = some (.slice e)) (hd : Opens P e d g) (hs : P.cellsOf e = d.sz) :
  Opens P t (Kd.slice e d) (fun l => l.length ≤ maxLen ∧ ∀ x ∈ l, g x) := by
 intro H enc W sp fuel cs x h
 rcases Deep.open_slice ht h with ⟨rfl, _⟩ | ⟨a, len, cap, m, n, D, Pl, rfl, _, hl, hm, hme, _, hel⟩
 ·refine ⟨[], ⟨none, 0, rfl, Nat.le_refl _, rfl, Nat.zero_le _, fun h => absurd h (Nat.lt_irrefl _)⟩, Nat.zero_le _, by simp⟩
 ·have hlm : len ≤ m := by rw [hme]; split <;> omega
  have h1 : ∀ i, ∃ z : Option α, i < len → ∃ y c, z = some y ∧ W.cells? 0 (a.add (i * P.cellsOf e)) (P.cellsOf e) = some c ∧ d.K W y c ∧ g y := by
   intro i
   by_cases hi : i < len
   ·obtain ⟨c, hc, hx⟩ := hel i (by omega)
    obtain ⟨y, hy, hg⟩ := hd enc W sp n c _ hx
    exact ⟨some y, fun _ => ⟨y, c, rfl, hc, hy, hg⟩⟩
   ·exact ⟨none, fun h => absurd h hi⟩
  obtain ⟨f, hf⟩ := Classical.axiomOfChoice h1
  have h2 : ∀ i, i < len → ∃ y c, f i = some y ∧ W.cells? 0 (a.add (i * P.cellsOf e)) (P.cellsOf e) = some c ∧ d.K W y c ∧ g y := fun i hi => hf i hi
  have key : ∀ k, k ≤ len → ∃ l : List α, l.length = k ∧ ∀ i, i < k → l[i]? = f i := by
   intro k
   induction k with
   | zero => intro _; exact ⟨[], rfl, fun i hi => absurd hi (Nat.not_lt_zero _)⟩
   | succ k ih =>
    intro hk
    obtain ⟨l, hll, hli⟩ := ih (by omega)
    obtain ⟨y, c, hy, _⟩ := h2 k (by omega)
    refine ⟨l ++ [y], by simp [hll], fun i hi => ?_⟩
    by_cases hik : i < k
    ·rw [List.getElem?_append_left (by omega)]; exact hli i hik
    ·have : i = k := by omega
     subst this
     rw [List.getElem?_append_right (by omega), hll]
     simp [hy]
  obtain ⟨l, hll, hli⟩ := key len (Nat.le_refl _)
  refine ⟨l, ⟨some a, cap, by rw [hll], by omega, rfl, ?_, fun _ => ⟨a, rfl, ?_⟩⟩, by omega, ?_⟩
  ·rw [hll]; unfold maxLen at hm; omega
  ·intro j p hj
   have hjl : j < len := by rw [← hll]; exact (List.getElem?_eq_some_iff.1 hj).1
   obtain ⟨y, c, hy, hc, hK, _⟩ := h2 j hjl
   have : p = y := by
    rw [hli j hjl, hy] at hj
    exact (Option.some.inj hj).symm
   subst this
   refine ⟨c, d.K_len hK, hK, fun i u hu => ?_⟩
   obtain ⟨_, hcl, hcc⟩ := World.cells?_some hc
   have hi : i < P.cellsOf e := by rw [← hcl]; exact (List.getElem?_eq_some_iff.1 hu).1
   rw [← hs, ← Deep.add_add, hcc i hi, hu]
  ·intro x hx
   obtain ⟨j, hj⟩ := List.getElem?_of_mem hx
   have hjl : j < len := by rw [← hll]; exact (List.getElem?_eq_some_iff.1 hj).1
   obtain ⟨y, c, hy, hc, hK, hg⟩ := h2 j hjl
   rw [hli j hjl, hy] at hj
   rw [← Option.some.inj hj]
   exact hg
/-- The fields from an offset on. -/
def OpensAt (P : Program) (off : Nat) (fs : List (TypeId × Nat)) {α : Type} (d : Kd α) (g : α → Prop) : Prop :=
 ∀ {H : Type} (enc : TypeId × Value → H) (W : World) (sp : Nat → Bool) (fuel : Nat) (cs : List Value), cs.length = off + d.sz → (∀ f ∈ fs, ∃ x, DataW.trod enc P W 0 sp true fuel f.1 ((cs.drop f.2).take (P.cellsOf f.1)) = some x) → ∃ y, d.K W y (cs.drop off) ∧ g y
theorem opens_last {off : Nat} {t : TypeId} {α : Type} {d : Kd α} {g : α → Prop} (ho : Opens P t d g) (hs : P.cellsOf t = d.sz) : OpensAt P off [(t, off)] d g := by
 intro H enc W sp fuel cs hl hf
 obtain ⟨x, hx⟩ := hf (t, off) (by simp)
 have e : (cs.drop off).take (P.cellsOf t) = cs.drop off := List.take_of_length_le (by rw [List.length_drop, hs]; omega)
 rw [e] at hx
 exact ho enc W sp fuel _ x hx
theorem opens_next {off : Nat} {t : TypeId} {fs : List (TypeId × Nat)} {α β : Type} {d : Kd α} {d' : Kd β} {g : α → Prop} {g' : β → Prop} (ho : Opens P t d g) (hs : P.cellsOf t = d.sz) (hr : OpensAt P (off + d.sz) fs d' g') :
  OpensAt P off ((t, off) :: fs) (Kd.pair d d') (fun x => g x.1 ∧ g' x.2) := by
 intro H enc W sp fuel cs hl hf
 have hl' : cs.length = off + d.sz + d'.sz := by have : (Kd.pair d d').sz = d.sz + d'.sz := rfl; omega
 obtain ⟨x, hx⟩ := hf (t, off) (by simp)
 obtain ⟨y, hy, hg⟩ := ho enc W sp fuel _ x hx
 obtain ⟨y', hy', hg'⟩ := hr enc W sp fuel cs hl' (fun f h => hf f (by simp [h]))
 refine ⟨(y, y'), ⟨_, _, ?_, hy, hy'⟩, hg, hg'⟩
 show cs.drop off = (cs.drop off).take (P.cellsOf t) ++ cs.drop (off + d.sz)
 rw [hs, ← List.drop_drop, List.take_append_drop]
theorem opens_struct {t : TypeId} {fs : Array Field} {α : Type} {d : Kd α} {g : α → Prop} (ht : P.underlying t = some (.struct fs)) (ho : OpensAt P 0 (fs.toList.map fun f => (f.type, f.offset)) d g) (hs : P.cellsOf t = d.sz) : Opens P t d g := by
 intro H enc W sp fuel cs x h
 obtain ⟨xs, n, _, _, hl, hlen, hf⟩ := DataW.trod_struct ht h
 have := ho enc W sp n cs (by omega) (fun f hfm => by
  obtain ⟨f0, hm, rfl⟩ := List.mem_map.1 hfm
  obtain ⟨i, hi⟩ := List.getElem?_of_mem hm
  have hi' : fs[i]? = some f0 := by simpa using hi
  have hlt : i < fs.size := (Array.getElem?_eq_some_iff.1 hi').1
  have := hf i f0 hi'
  rw [List.getElem?_eq_getElem (by omega)] at this
  exact ⟨_, this⟩)
 simpa using this
theorem opens_array {t e : TypeId} {n : Nat} {α : Type} {d : Kd α} {g : α → Prop} (ht : P.underlying t = some (.array n e)) (ho : OpensAt P 0 ((List.range n).map fun i => (e, i * P.cellsOf e)) d g) (hs : P.cellsOf t = d.sz) : Opens P t d g := by
 intro H enc W sp fuel cs x h
 obtain ⟨xs, m, _, _, hl, hlen, hf⟩ := DataW.trod_array ht h
 have := ho enc W sp m cs (by omega) (fun f hfm => by
  obtain ⟨i, hm, rfl⟩ := List.mem_map.1 hfm
  have hlt : i < n := by simpa using hm
  have := hf i hlt
  rw [List.getElem?_eq_getElem (by omega)] at this
  exact ⟨_, this⟩)
 simpa using this
theorem opens_iso {t : TypeId} {α β : Type} {d : Kd α} {g : α → Prop} (f : β → α) (mk : α → β) (hf : ∀ a, f (mk a) = a) (ho : Opens P t d g) : Opens P t (Kd.iso d f) (fun b => g (f b)) := by
 intro H enc W sp fuel cs x h
 obtain ⟨y, hy, hg⟩ := ho enc W sp fuel cs x h
 refine ⟨mk y, ?_, ?_⟩
 ·show d.K W (f (mk y)) cs
  rw [hf]
  exact hy
 ·show g (f (mk y))
  rw [hf]
  exact hg
theorem Opens.imp {t : TypeId} {α : Type} {d : Kd α} {g g' : α → Prop} (ho : Opens P t d g) (h : ∀ a, g a → g' a) : Opens P t d g' := by
 intro H enc W sp fuel cs x hx
 obtain ⟨y, hy, hg⟩ := ho enc W sp fuel cs x hx
 exact ⟨y, hy, h y hg⟩
theorem Opens.at_ {H : Type} {enc : TypeId × Value → H} {W : World} {sp : Nat → Bool} {t : TypeId} {v : Value} {x : DataW H} {ps : List MemPlace} {α : Type} {d : Kd α} {g : α → Prop} (ho : Opens P t d g) (h : DataW.Trod enc P W 0 sp true t v x ps) : ∃ y, d.K W y v.cells.toList ∧ g y := by
 obtain ⟨fuel, hf⟩ := h
 exact ho enc W sp fuel _ _ hf
theorem agg_of_array {r : Reach} {b0 : Nat} {W : World} {t e : TypeId} {n : Nat} {v : Value} (ht : P.underlying t = some (.array n e)) (hv : Value.okWide P W r b0 t v) : ∃ cs, v = .agg cs := by
 simp only [Value.okWide, ht] at hv
 obtain ⟨cs, rfl, _⟩ := hv
 exact ⟨cs, rfl⟩
theorem agg_cells {cs : Array Value} {l : List Value} (h : (Value.agg cs).cells.toList = l) : Value.agg cs = .agg l.toArray := by
 simp only [Value.cells] at h
 rw [← h]
end Go.Proofs.YtohnkcmbogcfhaaH
namespace Go.Proofs.Ytohnkcmbogcfhaa.oddsLosses
open Go.ChangeShapes Go.WideShapes Go.ChangeAt Go.RowKit Go.Proofs.YtohnkcmbogcfhaaH Go.Proofs.Ytohnkcmbogcfhaa.P Go.Proofs.YtohnkcmbogcfhaaW.PrintWords
open Go.ChangeMaps (open_string shut_string)
theorem own : ownKnob Try.prog.godebug = none := by kernel_rfl
theorem laidOut : laidOutB Try.prog = true := by kernel_rfl
set_option maxRecDepth 100000 in
set_option maxHeartbeats 4000000 in
theorem lifted (os : Os) (started : os.Started) (H : Type) (enc : TypeId × Value → H) :
  ReturnsInHanded {} Try.checked os 10 .any (Rows.oddsLossesSpec.pre6 enc Try.prog Try.f10 Rows.oddsLossesRow.domain false) (Rows.oddsLossesSpec.post enc Try.prog Try.f10 false true false false) := by
 refine returnsInHanded_of_change_sized (C := Try.checked) own started (by kernel_rfl) Try.func10
  (ChangeSpec.witness6 (enc := enc) (C := Try.checked) false ⟨#[], #[.slice none 0 0, .int .u8 0, .agg #[(.int .u32 0), (.int .u32 0)]], []⟩ 8 (by kernel_rfl) (by kernel_rfl) (by kernel_rfl) (by kernel_rfl)) ?_
 intro W base args ds gs before hval0 hW hcnd hsz0 _
 have hval : ∀ (j : Nat) t v, Try.f10.params[j]? = some t → args[j]? = some v → Value.okWide Try.prog W .any base t v := hval0
 have hW' := hW
 obtain ⟨p, q, hA0, hV, rfl, hfz, hnd⟩ := hW
 have hA : DataW.TrodAll enc Try.prog W 0 (fun _ => true) true Try.f10.params.toList args.toList ds p := hA0
 rw [Try.params10] at hA hval
 obtain ⟨v0, vs0, d0, ds0, p0, q0, hargs, rfl, rfl, h0, r0⟩ := trodAll_cons hA
 obtain ⟨v1, vs1, d1, ds1, p1, q1, rfl, rfl, rfl, h1, r1⟩ := trodAll_cons r0
 obtain ⟨v2, vs2, d2, ds2, p2, q2, rfl, rfl, rfl, h2, r2⟩ := trodAll_cons r1
 obtain ⟨rfl, rfl, rfl⟩ := trodAll_nil r2
 obtain rfl : args = #[v0, v1, v2] := by cases args; simp_all
 obtain ⟨rfl, rfl⟩ := trodVars_none hV
 obtain ⟨a0, n0, c0, rfl⟩ := okWide_slice Try.underlying23 (hval 0 23 v0 rfl rfl)
 have k0 := h0
 have lt0 : ∀ x ∈ p0, x.block < W.heap.size := by obtain ⟨m, hm⟩ := k0; exact DataW.trod_lt m _ _ _ hm
 obtain ⟨y0, K0, g0⟩ := Opens.at_ (opens_slice Try.underlying23 (show Opens Try.prog 96 k96 _ from opens_iso (fun x : S96 => (x.f0, x.f1, x.f2, x.f3)) (fun y => (⟨y.1, y.2.1, y.2.2.1, y.2.2.2⟩ : S96)) (fun _ => rfl) (opens_struct Try.underlying96 (opens_next (opens_int Try.underlying5) (by kernel_rfl) (opens_next (opens_int Try.underlying5) (by kernel_rfl) (opens_next (opens_int Try.underlying43) (by kernel_rfl) (opens_last (opens_int Try.underlying43) (by kernel_rfl))))) (by kernel_rfl))) (by kernel_rfl)) h0
 obtain ⟨A0, C0, e0, l0, rr0⟩ := K0
 obtain ⟨rfl, rfl, rfl⟩ : a0 = A0 ∧ n0 = y0.length ∧ c0 = C0 := by simpa [Value.cells] using e0
 obtain ⟨a1, rfl, rfl, rfl, w1⟩ := open_int Try.underlying5 (hval 1 5 v1 rfl rfl) h1
 obtain ⟨cs2, rfl⟩ := agg_of_array Try.underlying88 (hval 2 88 v2 rfl rfl)
 have k2 := h2
 have lt2 : ∀ x ∈ p2, x.block < W.heap.size := by obtain ⟨m, hm⟩ := k2; exact DataW.trod_lt m _ _ _ hm
 obtain ⟨y2, K2, g2⟩ := Opens.at_ (show Opens Try.prog 88 k88 _ from opens_iso (fun x : S88 => (x.f0, x.f1)) (fun y => (⟨y.1, y.2⟩ : S88)) (fun _ => rfl) (opens_array Try.underlying88 (opens_next (opens_int Try.underlying87) (by kernel_rfl) (opens_last (opens_int Try.underlying87) (by kernel_rfl))) (by kernel_rfl))) h2
 have e2 := k88_open K2
 obtain rfl := Value.agg.inj (agg_cells e2)
 obtain ⟨k, hk⟩ := Pure.OddsLosses y0 a1 y2.f0 y2.f1 g0 w1 g2
 clear hA0 hval0 hsz0
 refine (parolelaw37_OddsLosses.calls k _ _ y0 a1 y2.f0 y2.f1 true W rr0 l0 rfl hk).mono fun e W' hpost => ?_
 obtain ⟨he, bel0⟩ := hpost
 have bel : Below W.heap.size W W' := bel0
 subst he
 exact ⟨_, rfl, _, _, _, [], _, [], hW', trodAll_mk1 (shut_bool Try.underlying4 _), (trodAll_cons_mk (Below.trod laidOut (by kernel_rfl) (of_decide_eq_true (by kernel_rfl)) k0 bel lt0) (trodAll_cons_mk (shut_int Try.underlying5 w1) (trodAll_cons_mk (Below.trod laidOut (by kernel_rfl) (of_decide_eq_true (by kernel_rfl)) k2 bel lt2) trodAll_mk0))), rfl, bel.frame _, fun h => by cases h⟩
theorem over : Rows.oddsLossesRow.holds Try.pinned (OpenSpec.ofChange Rows.oddsLossesSpec) :=
 OpenClaim.holds_of_wide 10 Try.f10 rfl rfl rfl rfl rfl rfl rfl ⟨rfl, rfl, rfl, rfl, rfl⟩ rfl rfl rfl rfl rfl (by kernel_rfl) Try.func10 (by kernel_rfl)
  (of_decide_eq_true (by kernel_rfl)) (by unfold Func.isWrapper; first | (rw [if_pos (by decide +kernel)]; kernel_rfl) | (rw [if_neg (by decide +kernel)]; exact ⟨rfl, rfl⟩))
  (fun os started H enc _ => lifted os started H enc)
theorem proved : Rows.OddsLossesSaid := over
end Go.Proofs.Ytohnkcmbogcfhaa.oddsLosses
namespace Go.Proofs.Ytohnkcmbogcfhaa
/-- The row, under a short name, for the claim. -/
theorem oddsLosses_holds : Rows.OddsLossesSaid := oddsLosses.proved
end Go.Proofs.Ytohnkcmbogcfhaa

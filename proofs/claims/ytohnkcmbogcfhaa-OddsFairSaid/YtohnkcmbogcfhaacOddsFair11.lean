/- OddsFair: the odds times those after a right answer, and the rest times those after a wrong one, are the odds again. The plain law. -/
import Derived.Test.YtohnkcmbogcfhaacOddsFair10
import Derived.Deep.Slices
import Derived.WideShapes
import Derived.OpenShut
import Derived.ShutString
import Derived.ChangeOld
import Derived.SizedLaws
import Derived.Deep.OwnRows
import Derived.Laws.Rows
import Derived.Test.YtohnkcmbogcfhaaRows
set_option linter.unusedVariables false
set_option linter.unusedSimpArgs false
namespace Go.Proofs.Ytohnkcmbogcfhaa.Pure
open Go.RowKit Go.Proofs.Ytohnkcmbogcfhaa.P Go.Proofs.Ytohnkcmbogcfhaa.R Go.Proofs.YtohnkcmbogcfhaaW.PrintWords Go.Proofs.YtohnkcmbogcfhaaW.PrintLast
theorem kind_ofF (n : Int) (h : 0 ≤ n ∧ n ≤ 255) : wrap64 (1 + (wrap64 (Int.tmod n 14))) = 1 + n % 14 ∧ 1 ≤ 1 + n % 14 ∧ 1 + n % 14 ≤ 14 := by
 have e2 : n.tmod 14 = n % 14 := Int.tmod_eq_emod_of_nonneg h.1
 rw [e2, wrap64_of (n := n % 14) (by omega) (by omega), wrap64_of (by omega) (by omega)]
 omega
/-- The sum, for odds n/d in lowest terms, of kind with N and T. -/
theorem ev_fair (n d N T : Nat) (hn : 0 < n) (hnd : n < d) (hd : d ≤ 1048576) (hT : T ≤ 2147483650) (hN0 : 0 < N) (hNT : N < T) (g : Nat.gcd n d = 1) (F5 : n * T = N * d) :
  ∃ p1 p2 q1 q2 : Nat, Ev (fun k => rat_Mul.f k (n : Int) (d : Int) (rn (N + 1) (T + 1) : Int) (rd_ (N + 1) (T + 1) : Int)) ((p1 : Int), (p2 : Int), 0) ∧
   Ev (fun k => rat_Mul.f k ((d - n : Nat) : Int) (d : Int) (rn N (T + 1) : Int) (rd_ N (T + 1) : Int)) ((q1 : Int), (q2 : Int), 0) ∧
   Ev (fun k => rat_Add.f k (p1 : Int) (p2 : Int) (q1 : Int) (q2 : Int)) ((n : Int), (d : Int), 0) := by
 have a1 := red_cross (N + 1) (T + 1)
 have a2 := red_cross N (T + 1)
 have g1 := red_gcd (N + 1) (T + 1) (by omega)
 have g2 := red_gcd N (T + 1) (by omega)
 have v1 := rd_dvd (N + 1) (T + 1)
 have v2 := rd_dvd N (T + 1)
 have o1 := rd_pos (N + 1) (T + 1) (by omega)
 have o2 := rd_pos N (T + 1) (by omega)
 have l1 := rd_le (N + 1) (T + 1)
 have l2 := rd_le N (T + 1)
 have w1 := red_le (N + 1) (T + 1) (by omega)
 have w2 := red_le N (T + 1) (by omega)
 generalize rn (N + 1) (T + 1) = p1 at *
 generalize rd_ (N + 1) (T + 1) = e1 at *
 generalize rn N (T + 1) = p2 at *
 generalize rd_ N (T + 1) = e2 at *
 have gr : Nat.gcd (d - n) d = 1 := by
  obtain ⟨r, hr⟩ : ∃ r, d = r + n := ⟨d - n, by omega⟩
  have e : d - n = r := by omega
  rw [hr, Nat.gcd_add_self_right] at g
  rw [e, hr, Nat.gcd_self_add_right, Nat.gcd_comm]
  exact g
 have b1 : d * e1 ≤ 1048576 * 2147483651 := Nat.mul_le_mul hd (by omega)
 have b2 : d * e2 ≤ 1048576 * 2147483651 := Nat.mul_le_mul hd (by omega)
 have b3 : n * p1 ≤ d * e1 := Nat.mul_le_mul (by omega) w1
 have b4 : (d - n) * p2 ≤ d * e2 := Nat.mul_le_mul (by omega) w2
 have bM : d * (T + 1) ≤ 1048576 * 2147483651 := Nat.mul_le_mul hd (by omega)
 have D1 : 0 < d * e1 := Nat.mul_pos (by omega) o1
 have D2 : 0 < d * e2 := Nat.mul_pos (by omega) o2
 have h1 := ev_Mul n d p1 e1 (by omega) (by omega) (by omega) (by omega) (by omega) o1 g g1 (by have := rn_le (n * p1) (d * e1); omega) (by have := rd_le (n * p1) (d * e1); omega)
 have h2 := ev_Mul (d - n) d p2 e2 (by omega) (by omega) (by omega) (by omega) (by omega) o2 gr g2 (by have := rn_le ((d - n) * p2) (d * e2); omega) (by have := rd_le ((d - n) * p2) (d * e2); omega)
 have c1 := red_cross (n * p1) (d * e1)
 have c2 := red_cross ((d - n) * p2) (d * e2)
 have k1 := red_gcd (n * p1) (d * e1) D1
 have k2 := red_gcd ((d - n) * p2) (d * e2) D2
 have u1 := rd_dvd (n * p1) (d * e1)
 have u2 := rd_dvd ((d - n) * p2) (d * e2)
 have x1 := rd_pos (n * p1) (d * e1) D1
 have x2 := rd_pos ((d - n) * p2) (d * e2) D2
 have y1 := rd_le (n * p1) (d * e1)
 have y2 := rd_le ((d - n) * p2) (d * e2)
 have z1 := red_le (n * p1) (d * e1) b3
 have z2 := red_le ((d - n) * p2) (d * e2) b4
 generalize rn (n * p1) (d * e1) = an at *
 generalize rd_ (n * p1) (d * e1) = ad at *
 generalize rn ((d - n) * p2) (d * e2) = bn at *
 generalize rd_ ((d - n) * p2) (d * e2) = bd at *
 refine ⟨an, ad, bn, bd, h1, h2, ?_⟩
 have t1 : ad ∣ d * (T + 1) := Nat.dvd_trans u1 (Nat.mul_dvd_mul_left d v1)
 have t2 : bd ∣ d * (T + 1) := Nat.dvd_trans u2 (Nat.mul_dvd_mul_left d v2)
 obtain ⟨q1, q2⟩ := lcm_le ad bd (d * (T + 1)) (Nat.mul_pos (by omega) (by omega)) t1 t2
 have r1 : an * (bd / Nat.gcd ad bd) ≤ ad * (bd / Nat.gcd ad bd) := Nat.mul_le_mul_right _ z1
 have r2 : bn * (ad / Nat.gcd ad bd) ≤ bd * (ad / Nat.gcd ad bd) := Nat.mul_le_mul_right _ z2
 have cross := fair_cross n d (d - n) T N an ad bn bd p1 e1 p2 e2 c1 c2 a1 a2 F5 (by omega) o1 o2
 obtain ⟨f1, f2⟩ := red_unique n d (an * bd + bn * ad) (ad * bd) (Nat.mul_pos x1 x2) (by omega) g cross
 have := ev_addTail an ad bn bd (by omega) (by omega) x1 x2 k1 k2 (by omega) (by rw [← f1]; omega) (by rw [← f2]; omega) (by omega) (by omega)
 rw [← f1, ← f2] at this
 exact this
theorem OddsFair : parolelaw37_OddsFair.Pure := by
 intro l0 a1 h0 h1
 refine Ev.rounds (g := fun k => parolelaw37_OddsFair.f k l0 a1) ?_
 unfold parolelaw37_OddsFair.f
 refine Ev.cbind rfl (Ev.pos rfl (Ev.ite (fun _ => Ev.now _) (fun hlen => ?_)))
 have hr : ∀ x ∈ l0, raw x := fun x hx => raw_of (h0.2 x hx)
 obtain ⟨ek, hk⟩ := kind_ofF a1 (wf_u8 h1)
 have hB := made_book l0 hr
 rw [ek]
 refine Ev.bind (ev_Made l0 (by omega) hr) ?_
 generalize madeL l0 = l at hB ⊢
 generalize 1 + a1 % 14 = k at hk ⊢
 have hcr := cr_le l hB k
 have hln := sorted_length l hB.1
 have hL : ∀ right, Ev (fun n => parolelaw37_learned.f n l k right) (joinR l [ans k right]) := by
  intro right
  unfold parolelaw37_learned.f
  have := ev_Learn l k right (by omega)
  rw [learnR_of l k hk] at this
  exact Ev.bind this (Ev.now _)
 have hA := ans_book k hk true
 have hC := ans_book k hk false
 refine Ev.bind (ev_OfB l hB k (by omega)) (Ev.bind (hL true) (Ev.bind (hL false) ?_))
 rcases joinR_cases l [ans k true] hB hA with ⟨e, _⟩ | ⟨e, hJ⟩
 ·rw [e]
  refine Ev.neg (by decide) (Ev.succ ?_)
  simp only [parolelaw37_OddsFair.j0]
  exact Ev.pos trivial (Ev.pos trivial (Ev.now _))
 rcases joinR_cases l [ans k false] hB hC with ⟨e', _⟩ | ⟨e', hK⟩
 ·rw [e, e']
  refine Ev.pos rfl (Ev.neg (by decide) (Ev.succ ?_))
  simp only [parolelaw37_OddsFair.j0]
  exact Ev.pos trivial (Ev.neg (by decide) (Ev.pos trivial (Ev.now _)))
 rw [e, e']
 refine Ev.pos rfl (Ev.pos rfl (Ev.succ ?_))
 simp only [parolelaw37_OddsFair.j0]
 have T0 : 0 < cr l k + cw l k + 2 := by omega
 have gn := rn_pos (cr l k + 1) (cr l k + cw l k + 2) (by omega)
 have gd := rd_pos (cr l k + 1) (cr l k + cw l k + 2) T0
 have gg := red_gcd (cr l k + 1) (cr l k + cw l k + 2) T0
 have gx := red_cross (cr l k + 1) (cr l k + cw l k + 2)
 have glt : rn (cr l k + 1) (cr l k + cw l k + 2) < rd_ (cr l k + 1) (cr l k + cw l k + 2) := by
  have := (cross_lt (cr l k + 1) (cr l k + cw l k + 2) 1 1 (by omega) (by omega)).2 (by omega)
  have e1 : rn 1 1 = 1 := by decide
  have e2 : rd_ 1 1 = 1 := by decide
  rw [e1, e2] at this
  omega
 generalize rn (cr l k + 1) (cr l k + cw l k + 2) = n at *
 generalize rd_ (cr l k + 1) (cr l k + cw l k + 2) = d at *
 by_cases big : (d : Int) > 1048576
 ·rw [decide_eq_true big]
  exact Ev.pos rfl (Ev.neg (by decide) (Ev.neg (by decide) (Ev.pos big (Ev.now _))))
 rw [decide_eq_false big]
 refine Ev.neg (by simp) ?_
 obtain ⟨j1, j2⟩ := join_cr l [ans k true] hB hA k
 obtain ⟨s1, s2⟩ := cr_ans k k true
 simp only [and_self, if_true, Bool.true_eq_false, and_false, if_false] at s1 s2
 rw [s1] at j1
 rw [s2] at j2
 obtain ⟨i1, i2⟩ := join_cr l [ans k false] hB hC k
 obtain ⟨r1, r2⟩ := cr_ans k k false
 simp only [and_self, if_true, Bool.false_eq_true, and_false, if_false] at r1 r2
 rw [r1] at i1
 rw [r2] at i2
 have oA := ev_OfB _ hJ k (by omega)
 have oC := ev_OfB _ hK k (by omega)
 rw [j1, j2, show cr l k + 1 + (cw l k + 0) + 2 = cr l k + cw l k + 2 + 1 by omega] at oA
 rw [i1, i2, show cr l k + 0 + (cw l k + 1) + 2 = cr l k + cw l k + 2 + 1 by omega, Nat.add_zero] at oC
 obtain ⟨p1, p2, q1, q2, m1, m2, m3⟩ := ev_fair n d (cr l k + 1) (cr l k + cw l k + 2) gn glt (by omega) (by omega) (by omega) (by omega) gg gx
 refine Ev.bind (ev_rest n d gn glt (by omega)) (Ev.bind oA (Ev.bind m1 (Ev.bind oC (Ev.bind m2 (Ev.bind m3 ?_)))))
 exact Ev.pos rfl (Ev.pos rfl (Ev.pos rfl (Ev.pos rfl (Ev.pos (by simp) (Ev.now _)))))
end Go.Proofs.Ytohnkcmbogcfhaa.Pure
namespace Go.Proofs.YtohnkcmbogcfhaaH
open Go.RowKit Go.Proofs.YtohnkcmbogcfhaaW.PrintWords
variable {P : Program}
/-- What can be read as_ a value of type t is a value of kind d, and g holds of it. -/
def Opens (P : Program) (t : TypeId) {α : Type} (d : Kd α) (g : α → Prop) : Prop :=
 ∀ {H : Type} (enc : TypeId × Value → H) (W : World) (sp : Nat → Bool) (fuel : Nat) (cs : List Value) (x : DataW H × List MemPlace), DataW.trod enc P W 0 sp true fuel t cs = some x → ∃ y, d.K W y cs ∧ g y
theorem opens_int {t : TypeId} {k : IntKind} (ht : P.underlying t = some (.int k)) : Opens P t (Kd.int k) (fun n => (Lit.int k n).wf = true) := by
 intro H enc W sp fuel cs x h
 obtain ⟨n, rfl, _, hw⟩ := DataW.trod_int ht h
 exact ⟨n, rfl, hw⟩
theorem opens_slice {t e : TypeId} {α : Type} {d : Kd α} {g : α → Prop} (ht : P.underlying t = some (.slice e)) (hd : Opens P e d g) (hs : P.cellsOf e = d.sz) :
  Opens P t (Kd.slice e d) (fun l => l.length ≤ maxLen ∧ ∀ x ∈ l, g x) := by
 intro H enc W sp fuel cs x h
 rcases Deep.open_slice ht h with ⟨rfl, _⟩ | ⟨a, len, cap, m, n, D, Pl, rfl, _, hl, hm, hme, _, hel⟩
 ·refine ⟨[], ⟨none, 0, rfl, Nat.le_refl _, rfl, Nat.zero_le _, fun h => absurd h (Nat.lt_irrefl _)⟩, Nat.zero_le _, by simp⟩
 ·have hlm : len ≤ m := by rw [hme]; split <;> omega
  have h1 : ∀ i, ∃ z : Option α, i < len → ∃ y c, z = some y ∧ W.cells? 0 (a.add (i * P.cellsOf e)) (P.cellsOf e) = some c ∧ d.K W y c ∧ g y := by
   intro i
   by_cases hi : i < len
   ·obtain ⟨c, hc, hx⟩ := hel i (by omega)
    obtain ⟨y, hy, hg⟩ := hd enc W sp n c _ hx
    exact ⟨some y, fun _ => ⟨y, c, rfl, hc, hy, hg⟩⟩
   ·exact ⟨none, fun h => absurd h hi⟩
  obtain ⟨f, hf⟩ := Classical.axiomOfChoice h1
  have h2 : ∀ i, i < len → ∃ y c, f i = some y ∧ W.cells? 0 (a.add (i * P.cellsOf e)) (P.cellsOf e) = some c ∧ d.K W y c ∧ g y := fun i hi => hf i hi
  have key : ∀ k, k ≤ len → ∃ l : List α, l.length = k ∧ ∀ i, i < k → l[i]? = f i := by
   intro k
   induction k with
   | zero => intro _; exact ⟨[], rfl, fun i hi => absurd hi (Nat.not_lt_zero _)⟩
   | succ k ih =>
    intro hk
    obtain ⟨l, hll, hli⟩ := ih (by omega)
    obtain ⟨y, c, hy, _⟩ := h2 k (by omega)
    refine ⟨l ++ [y], by simp [hll], fun i hi => ?_⟩
    by_cases hik : i < k
    ·rw [List.getElem?_append_left (by omega)]; exact hli i hik
    ·have : i = k := by omega
     subst this
     rw [List.getElem?_append_right (by omega), hll]
     simp [hy]
  obtain ⟨l, hll, hli⟩ := key len (Nat.le_refl _)
  refine ⟨l, ⟨some a, cap, by rw [hll], by omega, rfl, ?_, fun _ => ⟨a, rfl, ?_⟩⟩, by omega, ?_⟩
  ·rw [hll]; unfold maxLen at hm; omega
  ·intro j p hj
   have hjl : j < len := by rw [← hll]; exact (List.getElem?_eq_some_iff.1 hj).1
   obtain ⟨y, c, hy, hc, hK, _⟩ := h2 j hjl
   have : p = y := by
    rw [hli j hjl, hy] at hj
    exact (Option.some.inj hj).symm
   subst this
   refine ⟨c, d.K_len hK, hK, fun i u hu => ?_⟩
   obtain ⟨_, hcl, hcc⟩ := World.cells?_some hc
   have hi : i < P.cellsOf e := by rw [← hcl]; exact (List.getElem?_eq_some_iff.1 hu).1
   rw [← hs, ← Deep.add_add, hcc i hi, hu]
  ·intro x hx
   obtain ⟨j, hj⟩ := List.getElem?_of_mem hx
   have hjl : j < len := by rw [← hll]; exact (List.getElem?_eq_some_iff.1 hj).1
   obtain ⟨y, c, hy, hc, hK, hg⟩ := h2 j hjl
   rw [hli j hjl, hy] at hj
   rw [← Option.some.inj hj]
   exact hg
/-- The fields from an offset on. -/
def OpensAt (P : Program) (off : Nat) (fs : List (TypeId × Nat)) {α : Type} (d : Kd α) (g : α → Prop) : Prop :=
 ∀ {H : Type} (enc : TypeId × Value → H) (W : World) (sp : Nat → Bool) (fuel : Nat) (cs : List Value), cs.length = off + d.sz → (∀ f ∈ fs, ∃ x, DataW.trod enc P W 0 sp true fuel f.1 ((cs.drop f.2).take (P.cellsOf f.1)) = some x) → ∃ y, d.K W y (cs.drop off) ∧ g y
theorem opens_last {off : Nat} {t : TypeId} {α : Type} {d : Kd α} {g : α → Prop} (ho : Opens P t d g) (hs : P.cellsOf t = d.sz) : OpensAt P off [(t, off)] d g := by
 intro H enc W sp fuel cs hl hf
 obtain ⟨x, hx⟩ := hf (t, off) (by simp)
 have e : (cs.drop off).take (P.cellsOf t) = cs.drop off := List.take_of_length_le (by rw [List.length_drop, hs]; omega)
 rw [e] at hx
 exact ho enc W sp fuel _ x hx
theorem opens_next {off : Nat} {t : TypeId} {fs : List (TypeId × Nat)} {α β : Type} {d : Kd α} {d' : Kd β} {g : α → Prop} {g' : β → Prop} (ho : Opens P t d g) (hs : P.cellsOf t = d.sz) (hr : OpensAt P (off + d.sz) fs d' g') :
  OpensAt P off ((t, off) :: fs) (Kd.pair d d') (fun x => g x.1 ∧ g' x.2) := by
 intro H enc W sp fuel cs hl hf
 have hl' : cs.length = off + d.sz + d'.sz := by have : (Kd.pair d d').sz = d.sz + d'.sz := rfl; omega
 obtain ⟨x, hx⟩ := hf (t, off) (by simp)
 obtain ⟨y, hy, hg⟩ := ho enc W sp fuel _ x hx
 obtain ⟨y', hy', hg'⟩ := hr enc W sp fuel cs hl' (fun f h => hf f (by simp [h]))
 refine ⟨(y, y'), ⟨_, _, ?_, hy, hy'⟩, hg, hg'⟩
 show cs.drop off = (cs.drop off).take (P.cellsOf t) ++ cs.drop (off + d.sz)
 rw [hs, ← List.drop_drop, List.take_append_drop]
theorem opens_struct {t : TypeId} {fs : Array Field} {α : Type} {d : Kd α} {g : α → Prop} (ht : P.underlying t = some (.struct fs)) (ho : OpensAt P 0 (fs.toList.map fun f => (f.type, f.offset)) d g) (hs : P.cellsOf t = d.sz) : Opens P t d g := by
 intro H enc W sp fuel cs x h
 obtain ⟨xs, n, _, _, hl, hlen, hf⟩ := DataW.trod_struct ht h
 have := ho enc W sp n cs (by omega) (fun f hfm => by
  obtain ⟨f0, hm, rfl⟩ := List.mem_map.1 hfm
  obtain ⟨i, hi⟩ := List.getElem?_of_mem hm
  have hi' : fs[i]? = some f0 := by simpa using hi
  have hlt : i < fs.size := (Array.getElem?_eq_some_iff.1 hi').1
  have := hf i f0 hi'
  rw [List.getElem?_eq_getElem (by omega)] at this
  exact ⟨_, this⟩)
 simpa using this
theorem opens_iso {t : TypeId} {α β : Type} {d : Kd α} {g : α → Prop} (f : β → α) (mk : α → β) (hf : ∀ a, f (mk a) = a) (ho : Opens P t d g) : Opens P t (Kd.iso d f) (fun b => g (f b)) := by
 intro H enc W sp fuel cs x h
 obtain ⟨y, hy, hg⟩ := ho enc W sp fuel cs x h
 refine ⟨mk y, ?_, ?_⟩
 ·show d.K W (f (mk y)) cs
  rw [hf]
  exact hy
 ·show g (f (mk y))
  rw [hf]
  exact hg
theorem Opens.imp {t : TypeId} {α : Type} {d : Kd α} {g g' : α → Prop} (ho : Opens P t d g) (h : ∀ a, g a → g' a) : Opens P t d g' := by
 intro H enc W sp fuel cs x hx
 obtain ⟨y, hy, hg⟩ := ho enc W sp fuel cs x hx
 exact ⟨y, hy, h y hg⟩
theorem Opens.at_ {H : Type} {enc : TypeId × Value → H} {W : World} {sp : Nat → Bool} {t : TypeId} {v : Value} {x : DataW H} {ps : List MemPlace} {α : Type} {d : Kd α} {g : α → Prop} (ho : Opens P t d g) (h : DataW.Trod enc P W 0 sp true t v x ps) : ∃ y, d.K W y v.cells.toList ∧ g y := by
 obtain ⟨fuel, hf⟩ := h
 exact ho enc W sp fuel _ _ hf
end Go.Proofs.YtohnkcmbogcfhaaH
namespace Go.Proofs.Ytohnkcmbogcfhaa.oddsFair
open Go.ChangeShapes Go.WideShapes Go.ChangeAt Go.RowKit Go.Proofs.YtohnkcmbogcfhaaH Go.Proofs.Ytohnkcmbogcfhaa.P Go.Proofs.YtohnkcmbogcfhaaW.PrintWords
open Go.ChangeMaps (open_string shut_string)
theorem own : ownKnob Try.prog.godebug = none := by kernel_rfl
theorem laidOut : laidOutB Try.prog = true := by kernel_rfl
set_option maxRecDepth 100000 in
set_option maxHeartbeats 4000000 in
theorem lifted (os : Os) (started : os.Started) (H : Type) (enc : TypeId × Value → H) :
  ReturnsInHanded {} Try.checked os 9 .any (Rows.oddsFairSpec.pre6 enc Try.prog Try.f9 Rows.oddsFairRow.domain false) (Rows.oddsFairSpec.post enc Try.prog Try.f9 false true false false) := by
 refine returnsInHanded_of_change_sized (C := Try.checked) own started (by kernel_rfl) Try.func9
  (ChangeSpec.witness6 (enc := enc) (C := Try.checked) false ⟨#[], #[.slice none 0 0, .int .u8 0], []⟩ 8 (by kernel_rfl) (by kernel_rfl) (by kernel_rfl) (by kernel_rfl)) ?_
 intro W base args ds gs before hval0 hW hcnd hsz0 _
 have hval : ∀ (j : Nat) t v, Try.f9.params[j]? = some t → args[j]? = some v → Value.okWide Try.prog W .any base t v := hval0
 have hW' := hW
 obtain ⟨p, q, hA0, hV, rfl, hfz, hnd⟩ := hW
 have hA : DataW.TrodAll enc Try.prog W 0 (fun _ => true) true Try.f9.params.toList args.toList ds p := hA0
 rw [Try.params9] at hA hval
 obtain ⟨v0, vs0, d0, ds0, p0, q0, hargs, rfl, rfl, h0, r0⟩ := trodAll_cons hA
 obtain ⟨v1, vs1, d1, ds1, p1, q1, rfl, rfl, rfl, h1, r1⟩ := trodAll_cons r0
 obtain ⟨rfl, rfl, rfl⟩ := trodAll_nil r1
 obtain rfl : args = #[v0, v1] := by cases args; simp_all
 obtain ⟨rfl, rfl⟩ := trodVars_none hV
 obtain ⟨a0, n0, c0, rfl⟩ := okWide_slice Try.underlying23 (hval 0 23 v0 rfl rfl)
 have k0 := h0
 have lt0 : ∀ x ∈ p0, x.block < W.heap.size := by obtain ⟨m, hm⟩ := k0; exact DataW.trod_lt m _ _ _ hm
 obtain ⟨y0, K0, g0⟩ := Opens.at_ (opens_slice Try.underlying23 (show Opens Try.prog 96 k96 _ from opens_iso (fun x : S96 => (x.f0, x.f1, x.f2, x.f3)) (fun y => (⟨y.1, y.2.1, y.2.2.1, y.2.2.2⟩ : S96)) (fun _ => rfl) (opens_struct Try.underlying96 (opens_next (opens_int Try.underlying5) (by kernel_rfl) (opens_next (opens_int Try.underlying5) (by kernel_rfl) (opens_next (opens_int Try.underlying43) (by kernel_rfl) (opens_last (opens_int Try.underlying43) (by kernel_rfl))))) (by kernel_rfl))) (by kernel_rfl)) h0
 obtain ⟨A0, C0, e0, l0, rr0⟩ := K0
 obtain ⟨rfl, rfl, rfl⟩ : a0 = A0 ∧ n0 = y0.length ∧ c0 = C0 := by simpa [Value.cells] using e0
 obtain ⟨a1, rfl, rfl, rfl, w1⟩ := open_int Try.underlying5 (hval 1 5 v1 rfl rfl) h1
 obtain ⟨k, hk⟩ := Pure.OddsFair y0 a1 g0 w1
 clear hA0 hval0 hsz0
 refine (parolelaw37_OddsFair.calls k _ _ y0 a1 true W rr0 l0 rfl hk).mono fun e W' hpost => ?_
 obtain ⟨he, bel0⟩ := hpost
 have bel : Below W.heap.size W W' := bel0
 subst he
 exact ⟨_, rfl, _, _, _, [], _, [], hW', trodAll_mk1 (shut_bool Try.underlying4 _), (trodAll_cons_mk (Below.trod laidOut (by kernel_rfl) (of_decide_eq_true (by kernel_rfl)) k0 bel lt0) (trodAll_cons_mk (shut_int Try.underlying5 w1) trodAll_mk0)), rfl, bel.frame _, fun h => by cases h⟩
theorem over : Rows.oddsFairRow.holds Try.pinned (OpenSpec.ofChange Rows.oddsFairSpec) :=
 OpenClaim.holds_of_wide 9 Try.f9 rfl rfl rfl rfl rfl rfl rfl ⟨rfl, rfl, rfl, rfl, rfl⟩ rfl rfl rfl rfl rfl (by kernel_rfl) Try.func9 (by kernel_rfl)
  (of_decide_eq_true (by kernel_rfl)) (by unfold Func.isWrapper; first | (rw [if_pos (by decide +kernel)]; kernel_rfl) | (rw [if_neg (by decide +kernel)]; exact ⟨rfl, rfl⟩))
  (fun os started H enc _ => lifted os started H enc)
theorem proved : Rows.OddsFairSaid := over
end Go.Proofs.Ytohnkcmbogcfhaa.oddsFair
namespace Go.Proofs.Ytohnkcmbogcfhaa
/-- The row, under a short name, for the claim. -/
theorem oddsFair_holds : Rows.OddsFairSaid := oddsFair.proved
end Go.Proofs.Ytohnkcmbogcfhaa

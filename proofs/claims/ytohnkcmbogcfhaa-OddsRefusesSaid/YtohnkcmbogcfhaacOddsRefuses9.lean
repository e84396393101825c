/- OddsRefuses: kinds and costs that there are not, kinds twice or in another order, and counts beyond 2^30 are refused: for all numbers. The plain law. -/
import Derived.Test.YtohnkcmbogcfhaacOddsRefuses8
import Derived.ProofKit
import Derived.OpenShut
import Derived.ShutString
import Derived.ChangeOld
import Derived.SizedLaws
import Derived.Deep.OwnRows
import Derived.Laws.Rows
import Derived.Test.YtohnkcmbogcfhaaRows
set_option linter.unusedVariables false
set_option linter.unusedSimpArgs false
namespace Go.Proofs.Ytohnkcmbogcfhaa.R
open Go.RowKit Go.Proofs.Ytohnkcmbogcfhaa.P Go.Proofs.YtohnkcmbogcfhaaW.PrintWords Go.Proofs.YtohnkcmbogcfhaaW.PrintLast Go.Proofs.YtohnkcmbogcfhaaW.PrintMore
theorem wrap64_of {n : Int} (h0 : -9223372036854775808 ≤ n) (h1 : n ≤ 9223372036854775807) : wrap64 n = n := by
 unfold wrap64
 omega
theorem u64_of {n : Int} (h0 : 0 ≤ n) (h1 : n ≤ 18446744073709551615) : IntKind.u64.wrap n = n := by
 unfold IntKind.wrap
 simp [IntKind.signed, IntKind.bits]
 omega
theorem Ev.ite {α : Type} {c : Prop} [Decidable c] {g f : Nat → Option α} {r : α} (h : c → Ev g r) (k : ¬ c → Ev f r) : Ev (fun n => if c then g n else f n) r := by
 by_cases hc : c
 ·exact Ev.congr (fun _ => if_pos hc) (h hc)
 ·exact Ev.congr (fun _ => if_neg hc) (k hc)
theorem Ev.pos {α : Type} {c : Prop} [Decidable c] {g f : Nat → Option α} {r : α} (hc : c) (h : Ev g r) : Ev (fun n => if c then g n else f n) r := Ev.congr (fun _ => if_pos hc) h
theorem Ev.neg {α : Type} {c : Prop} [Decidable c] {g f : Nat → Option α} {r : α} (hc : ¬ c) (h : Ev f r) : Ev (fun n => if c then g n else f n) r := Ev.congr (fun _ => if_neg hc) h
theorem Ev.succ {α : Type} {g : Nat → Option α} {r : α} (h : Ev (fun k => g (k + 1)) r) : Ev g r := Ev.step (fun _ => rfl) h
theorem Ev.const {α : Type} {o : Option α} {r : α} (h : o = some r) : Ev (fun _ => o) r := ⟨0, fun _ _ => h⟩
theorem Ev.cbind {α β : Type} {o : Option α} {f : Nat → α → Option β} {a : α} {r : β} (h : o = some a) (k : Ev (fun n => f n a) r) : Ev (fun n => o.bind (f n)) r := Ev.bind (Ev.const h) k
theorem gcd_l1 (x10 : List Int) (x11 x12 : Int) : ∀ (b a : Nat) (r : Int), Ev (fun k => rat_gcd.l0 k (Nat.gcd a b : Int) x10 x11 (wrap64 (x12 + 1))) r → Ev (fun k => rat_gcd.l1 k (a : Int) (b : Int) x10 x11 x12) r := by
 intro b
 induction b using Nat.strongRecOn with
 | _ b ih =>
  intro a r h
  refine Ev.succ ?_
  simp only [rat_gcd.l1]
  by_cases hb : b = 0
  ·subst hb
   refine Ev.neg (by simp) ?_
   simpa using h
  ·refine Ev.pos (by omega) (Ev.neg (by omega) ?_)
   have e : Int.tmod (a : Int) (b : Int) = ((a % b : Nat) : Int) := rfl
   rw [e]
   refine ih (a % b) (Nat.mod_lt _ (by omega)) b r ?_
   rw [Nat.gcd_comm, ← Nat.gcd_rec, Nat.gcd_comm]
   exact h
theorem gcd2 (a b : Nat) : Ev (fun k => rat_gcd.f k [(a : Int), (b : Int)]) (Nat.gcd a b : Int) := by
 unfold rat_gcd.f
 refine Ev.pos (by simp) (Ev.pos (by simp) ?_)
 simp only [rd, List.drop, List.getD, List.length]
 refine Ev.succ ?_
 simp only [rat_gcd.l0]
 refine Ev.pos (by simp) (Ev.pos (by simp) (Ev.pos (by simp) ?_))
 refine gcd_l1 _ _ _ b a _ ?_
 refine Ev.succ ?_
 simp only [rat_gcd.l0]
 exact Ev.neg (by rw [wrap64_of (by omega) (by omega)]; simp) (Ev.now _)
theorem number_small (neg : Bool) (lo : Nat) (h : lo ≤ 4611686018427387904) : Ev (fun k => rat_wide_number.f k neg 0 (lo : Int)) (if neg then -(lo : Int) else (lo : Int), true) := by
 unfold rat_wide_number.f
 refine Ev.neg (by omega) (Ev.succ ?_)
 simp only [rat_wide_number.j0]
 refine Ev.neg (by simp; omega) ?_
 rw [wrap64_of (n := (lo : Int)) (by omega) (by omega), wrap64_of (n := -(lo : Int)) (by omega) (by omega)]
 cases neg <;> simp <;> exact Ev.now _
theorem made_small (neg : Bool) (a b : Nat) (ha : a ≤ 4611686018427387904) (hb : b ≤ 4611686018427387904) : Ev (fun k => rat_made.f k neg 0 (a : Int) false 0 (b : Int)) (if neg then -(a : Int) else (a : Int), (b : Int), 0) := by
 unfold rat_made.f
 refine Ev.bind (number_small neg a ha) (Ev.bind (number_small false b hb) ?_)
 exact Ev.pos rfl (Ev.pos rfl (Ev.now _))
/-- New of two numbers that are not negative. -/
theorem new_nat (n d : Nat) (hn : n ≤ 4611686018427387904) (hd : 0 < d) (hd2 : d ≤ 4611686018427387904) : Ev (fun k => rat_New.f k (n : Int) (d : Int)) (((n / Nat.gcd n d : Nat) : Int), ((d / Nat.gcd n d : Nat) : Int), 0) := by
 unfold rat_New.f
 refine Ev.neg (by omega) ?_
 by_cases h0 : n = 0
 ·subst h0
  refine Ev.pos (by simp) ?_
  simp only [rat_zero.f, Option.bind_some, Nat.gcd_zero_left, Nat.zero_div, Nat.div_self hd]
  exact Ev.now _
 ·refine Ev.neg (by omega) ?_
  have ea : ∀ m : Nat, m ≤ 4611686018427387904 → rat_abs.f (m : Int) = some (m : Int) := by
   intro m hm
   unfold rat_abs.f
   rw [if_neg (by omega), u64_of (by omega) (by omega)]
  have hg : 0 < Nat.gcd n d := Nat.gcd_pos_of_pos_right _ hd
  refine Ev.cbind (ea n hn) (Ev.cbind (ea d hd2) (Ev.bind (gcd2 n d) (Ev.cbind (ea n hn) (Ev.neg (by omega) (Ev.cbind (ea d hd2) ?_)))))
  have e1 : ∀ m : Nat, m ≤ 4611686018427387904 → IntKind.u64.wrap (Int.tdiv (m : Int) (Nat.gcd n d : Int)) = ((m / Nat.gcd n d : Nat) : Int) := by
   intro m hm
   have e : Int.tdiv (m : Int) (Nat.gcd n d : Int) = ((m / Nat.gcd n d : Nat) : Int) := rfl
   have h1 := Nat.div_le_self m (Nat.gcd n d)
   rw [e]
   generalize m / Nat.gcd n d = q at h1
   exact u64_of (by omega) (by omega)
  rw [e1 n hn, e1 d hd2]
  have e2 : (decide ((n : Int) < 0) != decide ((d : Int) < 0)) = false := by
   rw [decide_eq_false (by omega), decide_eq_false (by omega)]; rfl
  rw [e2]
  refine Ev.bind (made_small false _ _ (Nat.le_trans (Nat.div_le_self _ _) hn) (Nat.le_trans (Nat.div_le_self _ _) hd2)) ?_
  exact Ev.now _
end Go.Proofs.Ytohnkcmbogcfhaa.R
namespace Go.Proofs.Ytohnkcmbogcfhaa.R
open Go.RowKit Go.Proofs.Ytohnkcmbogcfhaa.P Go.Proofs.YtohnkcmbogcfhaaW.PrintWords Go.Proofs.YtohnkcmbogcfhaaW.PrintLast Go.Proofs.YtohnkcmbogcfhaaW.PrintMore
def mergeL : Nat → List S71 → List S71 → List S71
 | 0, _, _ => []
 | _ + 1, [], [] => []
 | n + 1, x :: a, [] => x :: mergeL n a []
 | n + 1, [], y :: b => y :: mergeL n [] b
 | n + 1, x :: a, y :: b => if x.f0 < y.f0 then x :: mergeL n a (y :: b) else if y.f0 < x.f0 then y :: mergeL n (x :: a) b else ⟨x.f0, wrap64 (x.f1 + y.f1), wrap64 (x.f2 + y.f2)⟩ :: mergeL n a b
theorem rd_cons (x : S71) (a : List S71) : rd_T71 (x :: a) 0 = x := rfl
theorem merge_l0 : ∀ (n : Nat) (a b acc : List S71), a.length + b.length ≤ n → acc.length + n < 5864062014805 → Ev (fun k => api_Answered.l0 k a b acc) (acc ++ mergeL n a b) := by
 intro n
 induction n with
 | zero =>
  intro a b acc h1 h2
  obtain rfl : a = [] := List.length_eq_zero_iff.1 (by omega)
  obtain rfl : b = [] := List.length_eq_zero_iff.1 (by omega)
  refine Ev.succ ?_
  simp only [api_Answered.l0, mergeL, List.append_nil]
  exact Ev.neg (by rw [show wrap64 (((([] : List S71).length : Nat) : Int) + ((([] : List S71).length : Nat) : Int)) = 0 from wrap64_of (by simp) (by simp)]; simp) (Ev.now _)
 | succ n ih =>
  intro a b acc h1 h2
  have hw : wrap64 ((a.length : Int) + (b.length : Int)) = (a.length : Int) + (b.length : Int) := wrap64_of (by omega) (by omega)
  have step : ∀ (a' b' : List S71) (z : S71), a'.length + b'.length ≤ n → Ev (fun k => api_Answered.l0 k a' b' (acc ++ [z])) (acc ++ z :: mergeL n a' b') := by
   intro a' b' z h
   have := ih a' b' (acc ++ [z]) h (by simp; omega)
   simpa using this
  cases a with
  | nil =>
   cases b with
   | nil =>
    refine Ev.succ ?_
    simp only [api_Answered.l0, mergeL, List.append_nil]
    exact Ev.neg (by rw [show wrap64 (((([] : List S71).length : Nat) : Int) + ((([] : List S71).length : Nat) : Int)) = 0 from wrap64_of (by simp) (by simp)]; simp) (Ev.now _)
   | cons y b =>
    simp only [List.length_cons, List.length_nil] at h1 hw
    refine Ev.succ ?_
    simp only [api_Answered.l0, mergeL, rd_cons, odds_Join_2.f, Option.bind_some, List.length_nil, List.length_cons]
    refine Ev.pos (by rw [hw]; omega) (Ev.neg (by omega) (Ev.neg (by simp) (Ev.succ ?_)))
    simp only [api_Answered.j1, rd_cons, List.length_nil, List.length_cons]
    refine Ev.neg (by simp) (Ev.pos (by simp) (Ev.pos (by omega) (Ev.pos (by omega) (Ev.pos (by omega) ?_))))
    exact step [] b y (by simp; omega)
  | cons x a =>
   cases b with
   | nil =>
    simp only [List.length_cons, List.length_nil] at h1 hw
    refine Ev.succ ?_
    simp only [api_Answered.l0, mergeL, rd_cons, odds_Join_2.f, Option.bind_some, List.length_nil, List.length_cons]
    refine Ev.pos (by rw [hw]; omega) (Ev.pos (by simp) (Ev.succ ?_))
    simp only [api_Answered.j1, rd_cons, List.length_nil, List.length_cons]
    refine Ev.pos trivial (Ev.pos (by omega) (Ev.pos (by omega) (Ev.pos (by omega) ?_)))
    exact step a [] x (by simp; omega)
   | cons y b =>
    simp only [List.length_cons] at h1 hw
    refine Ev.succ ?_
    simp only [api_Answered.l0, mergeL, rd_cons, odds_Join_2.f, Option.bind_some, List.length_cons]
    refine Ev.pos (by rw [hw]; omega) (Ev.neg (by omega) (Ev.pos (by omega) (Ev.pos (by omega) (Ev.pos (by omega) (Ev.succ ?_)))))
    simp only [api_Answered.j1, rd_cons, odds_Join_2.f, odds_Join_1.f, Option.bind_some, List.length_cons]
    by_cases hxy : x.f0 < y.f0
    ·rw [if_pos hxy]
     refine Ev.pos (by simpa using hxy) (Ev.pos (by omega) (Ev.pos (by omega) (Ev.pos (by omega) ?_)))
     exact step a (y :: b) x (by simp; omega)
    ·rw [if_neg hxy]
     refine Ev.neg (by simpa using hxy) (Ev.neg (by omega) (Ev.pos (by omega) (Ev.pos (by omega) ?_)))
     by_cases hyx : y.f0 < x.f0
     ·rw [if_pos hyx]
      refine Ev.pos hyx (Ev.pos (by omega) (Ev.pos (by omega) ?_))
      exact step (x :: a) b y (by simp; omega)
     ·rw [if_neg hyx]
      refine Ev.neg hyx (Ev.pos (by omega) (Ev.pos (by omega) (Ev.pos (by omega) ?_)))
      exact step a b _ (by omega)
/-- Which books are right. -/
def okAt (p : Option S71) (x : S71) : Bool := decide (1 ≤ x.f0) && decide (x.f0 ≤ 14) && decide (0 ≤ x.f1) && decide (0 ≤ x.f2) && decide (x.f1 ≤ 1073741824) && decide (x.f2 ≤ 1073741824) && (match p with | none => true | some q => decide (q.f0 < x.f0))
def rightFrom : Option S71 → List S71 → Bool
 | _, [] => true
 | p, x :: l => okAt p x && rightFrom (some x) l
def rightB (l : List S71) : Bool := rightFrom none l
theorem right_l0 (l : List S71) (hl : l.length < 1000000000000) : ∀ (d i : Nat), i + d = l.length → Ev (fun k => odds_Right.l0 k l l (l.length : Int) (i : Int)) (if rightFrom (if i = 0 then none else l[i - 1]?) (l.drop i) then 0 else 1) := by
 intro d
 induction d with
 | zero =>
  intro i h
  refine Ev.succ ?_
  simp only [odds_Right.l0]
  have e : l.drop i = [] := List.drop_eq_nil_of_le (by omega)
  rw [e]
  simp only [rightFrom, if_true]
  exact Ev.neg (by omega) (Ev.now _)
 | succ d ih =>
  intro i h
  have hi : i < l.length := by omega
  refine Ev.succ ?_
  simp only [odds_Right.l0]
  have e : l.drop i = l[i] :: l.drop (i + 1) := List.drop_eq_getElem_cons hi
  have er : rd_T71 l (i : Int) = l[i] := by unfold rd_T71; simp [hi]
  have hw : wrap64 ((i : Int) + 1) = ((i + 1 : Nat) : Int) := by rw [wrap64_of (by omega) (by omega)]; omega
  have hih := ih (i + 1) (by omega)
  rw [e]
  generalize hx : l[i] = x at er ⊢
  have hprev : l[i + 1 - 1]? = some x := by simp [hi, hx]
  rw [hprev] at hih
  simp only [Nat.add_eq_zero_iff, Nat.one_ne_zero, and_false, if_false] at hih
  simp only [er, hw]
  refine Ev.pos (by omega) (Ev.pos (by omega) (Ev.pos (by omega) ?_))
  have bad : ∀ p, okAt p x = false → (if rightFrom p (x :: l.drop (i + 1)) = true then (0 : Int) else 1) = 1 := by
   intro p hp
   simp [rightFrom, hp]
  by_cases c1 : x.f0 < 1
  ·refine Ev.pos c1 ?_
   rw [bad _ (by unfold okAt; simp; omega)]
   exact Ev.now _
  refine Ev.neg c1 ?_
  by_cases c2 : x.f0 > 14
  ·refine Ev.pos c2 ?_
   rw [bad _ (by unfold okAt; simp; omega)]
   exact Ev.now _
  refine Ev.neg c2 ?_
  by_cases c3 : mn x.f1 x.f2 < 0
  ·refine Ev.pos c3 ?_
   rw [bad _ (by unfold okAt; unfold mn at c3; simp; split at c3 <;> omega)]
   exact Ev.now _
  refine Ev.neg c3 ?_
  by_cases c4 : mx x.f1 x.f2 > 1073741824
  ·refine Ev.pos c4 ?_
   rw [bad _ (by unfold okAt; unfold mx at c4; simp; split at c4 <;> omega)]
   exact Ev.now _
  refine Ev.neg c4 ?_
  have hok : okAt none x = true := by
   unfold okAt
   unfold mn at c3
   unfold mx at c4
   simp
   split at c3 <;> split at c4 <;> omega
  by_cases c5 : i = 0
  ·subst c5
   refine Ev.neg (by simp) ?_
   simpa [rightFrom, hok] using hih
  ·refine Ev.pos (by omega) ?_
   have hp : ((i : Int) - 1) = ((i - 1 : Nat) : Int) := by omega
   have hw2 : wrap64 ((i : Int) - 1) = ((i - 1 : Nat) : Int) := by rw [wrap64_of (by omega) (by omega)]; omega
   rw [hw2]
   have hj : i - 1 < l.length := by omega
   have er2 : rd_T71 l ((i - 1 : Nat) : Int) = l[i - 1] := by unfold rd_T71; simp [hj]
   rw [er2]
   refine Ev.pos (by omega) (Ev.pos (by omega) ?_)
   have hq : l[i - 1]? = some l[i - 1] := by simp [hj]
   simp only [c5, if_false]
   rw [hq]
   generalize l[i - 1] = q
   by_cases c6 : q.f0 ≥ x.f0
   ·refine Ev.pos c6 ?_
    rw [bad _ (by unfold okAt; simp; omega)]
    exact Ev.now _
   ·refine Ev.neg c6 ?_
    have hok2 : okAt (some q) x = true := by
     unfold okAt at hok ⊢
     simp at hok ⊢
     omega
    simpa [rightFrom, hok2] using hih
theorem ev_Right (l : List S71) (hl : l.length < 1000000000000) : Ev (fun k => odds_Right.f k l) (if rightB l then 0 else 1) := by
 have := right_l0 l hl l.length 0 (by omega)
 rw [List.drop_zero] at this
 exact this
theorem mergeL_length : ∀ (n : Nat) (a b : List S71), (mergeL n a b).length ≤ n := by
 intro n
 induction n with
 | zero => intro a b; simp [mergeL]
 | succ n ih =>
  intro a b
  cases a <;> cases b <;> simp only [mergeL]
  ·simp
  ·have := ih [] ‹_›; simp; omega
  ·have := ih ‹_› []; simp; omega
  ·split
   ·simp; exact ih _ _
   ·split
    ·simp; exact ih _ _
    ·simp; exact ih _ _
def joinL (a b : List S71) : List S71 := mergeL (a.length + b.length) a b
def joinR (a b : List S71) : List S71 × Int := if rightB (joinL a b) then (joinL a b, 0) else ([], 2)
theorem ev_Join (a b : List S71) (h : a.length + b.length < 1000000000000) : Ev (fun k => odds_Join.f k a b) (joinR a b) := by
 unfold odds_Join.f
 have h1 : Ev (fun k => api_Answered.f k a b) (joinL a b) := by
  have := merge_l0 (a.length + b.length) a b [] (Nat.le_refl _) (by simp; omega)
  simpa [api_Answered.f, joinL] using this
 refine Ev.bind h1 ?_
 have h2 := mergeL_length (a.length + b.length) a b
 refine Ev.bind (ev_Right _ (by unfold joinL; omega)) ?_
 unfold joinR
 cases rightB (joinL a b) <;> simp <;> exact Ev.now _
def learnR (l : List S71) (k : Int) (right : Bool) : List S71 × Int := if k < 1 ∨ 14 < k then ([], 1) else joinR l [if right then ⟨k, 1, 0⟩ else ⟨k, 0, 1⟩]
theorem ev_Learn (l : List S71) (k : Int) (right : Bool) (h : l.length < 100000000000) : Ev (fun n => odds_Learn.f n l k right) (learnR l k right) := by
 unfold odds_Learn.f
 refine Ev.ite (fun c => ?_) (fun c => ?_)
 ·refine Ev.succ ?_
  simp only [odds_Learn.j0]
  unfold learnR
  rw [if_pos (Or.inl c)]
  exact Ev.pos trivial (Ev.now _)
 ·refine Ev.succ ?_
  simp only [odds_Learn.j0]
  unfold learnR
  by_cases c2 : k > 14
  ·rw [if_pos (Or.inr c2)]
   exact Ev.pos (by simpa using c2) (Ev.now _)
  ·rw [if_neg (by omega)]
   refine Ev.neg (by simpa using c2) ?_
   cases right
   ·refine Ev.neg (by simp) ?_
    exact Ev.bind (ev_Join _ _ (by simp; omega)) (Ev.now _)
   ·refine Ev.pos rfl ?_
    exact Ev.bind (ev_Join _ _ (by simp; omega)) (Ev.now _)
/-- The loss of a kind, of which the book has these counts. -/
def lossR (x y cost : Nat) : Int × Int × Int := ((((x + 1) * cost / Nat.gcd ((x + 1) * cost) (x + y + 2) : Nat) : Int), (((x + y + 2) / Nat.gcd ((x + 1) * cost) (x + y + 2) : Nat) : Int), 0)
theorem ev_Loss (l : List S71) (kind q : Int) (x y cost : Nat) (hof : odds_book_of.f l kind = some (q, (x : Int), (y : Int))) (hx : x ≤ 1073741824) (hy : y ≤ 1073741824) (hc : cost ≤ 1073741824) : Ev (fun k => odds_Loss.f k l kind (cost : Int)) (lossR x y cost) := by
 unfold odds_Loss.f
 refine Ev.neg (by omega) (Ev.succ ?_)
 simp only [odds_Loss.j0]
 refine Ev.neg (by simp; omega) (Ev.cbind hof ?_)
 have hm : (x + 1) * cost ≤ 1073741825 * 1073741824 := Nat.mul_le_mul (by omega) hc
 have e1 : wrap64 (wrap64 ((x : Int) + 1) * (cost : Int)) = (((x + 1) * cost : Nat) : Int) := by
  rw [wrap64_of (n := (x : Int) + 1) (by omega) (by omega)]
  have : ((x : Int) + 1) * (cost : Int) = (((x + 1) * cost : Nat) : Int) := by push_cast; rfl
  rw [this, wrap64_of (by omega) (by omega)]
 have e2 : wrap64 (wrap64 ((x : Int) + (y : Int)) + 2) = ((x + y + 2 : Nat) : Int) := by
  rw [wrap64_of (n := (x : Int) + (y : Int)) (by omega) (by omega), wrap64_of (by omega) (by omega)]
  omega
 simp only [e1, e2]
 exact Ev.bind (new_nat _ _ (by omega) (by omega) (by omega)) (Ev.now _)
theorem ev_Loss_bad (l : List S71) (kind cost : Int) (h : cost < 0 ∨ 1073741824 < cost) : Ev (fun k => odds_Loss.f k l kind cost) (0, 0, 1) := by
 unfold odds_Loss.f
 refine Ev.ite (fun c => ?_) (fun c => ?_)
 ·refine Ev.succ ?_
  simp only [odds_Loss.j0]
  exact Ev.pos trivial (Ev.now _)
 ·refine Ev.succ ?_
  simp only [odds_Loss.j0]
  exact Ev.pos (by simp; omega) (Ev.now _)
end Go.Proofs.Ytohnkcmbogcfhaa.R
namespace Go.Proofs.Ytohnkcmbogcfhaa.Pure
open Go.RowKit Go.Proofs.Ytohnkcmbogcfhaa.P Go.Proofs.Ytohnkcmbogcfhaa.R Go.Proofs.YtohnkcmbogcfhaaW.PrintWords Go.Proofs.YtohnkcmbogcfhaaW.PrintLast
theorem ev_examples : Ev (fun k => parolelaw37_examples.f k) true :=
 Ev.of (fun k => parolelaw37_examples.mono k) (k := 80) (by kernel_rfl)
theorem right_one (a : Int) (h1 : 1 ≤ a) (h2 : a ≤ 14) : rightB [⟨a, 1, 0⟩] = true := by
 unfold rightB rightFrom rightFrom okAt
 simp
 omega
theorem ev_bad (k7 : Bool) (L : List (List S71)) (hL : ∀ l ∈ L, l.length < 1000000000000 ∧ rightB l = false) (hn : L.length < 1000000) : ∀ (d i : Nat), i + d = L.length → Ev (fun k => parolelaw37_OddsRefuses.l0 k k7 L (i : Int)) k7 := by
 intro d
 induction d with
 | zero =>
  intro i h
  refine Ev.succ ?_
  simp only [parolelaw37_OddsRefuses.l0]
  exact Ev.neg (by omega) (Ev.now _)
 | succ d ih =>
  intro i h
  refine Ev.succ ?_
  simp only [parolelaw37_OddsRefuses.l0]
  have hi : i < L.length := by omega
  have er : rd_L4 L (i : Int) = L[i] := by unfold rd_L4; simp [hi]
  have hw : wrap64 ((i : Int) + 1) = ((i + 1 : Nat) : Int) := by rw [wrap64_of (by omega) (by omega)]; omega
  have hb := hL L[i] (List.getElem_mem hi)
  have h1 := ev_Right L[i] hb.1
  rw [hb.2] at h1
  rw [er, hw]
  refine Ev.pos (by omega) (Ev.pos (by omega) (Ev.bind h1 (Ev.pos rfl ?_)))
  exact ih (i + 1) (by omega)
theorem ev_j0 (k7 b : Bool) (hb : b = false) : Ev (fun k => parolelaw37_OddsRefuses.j0 k k7 b) k7 := by
 subst hb
 refine Ev.succ ?_
 simp only [parolelaw37_OddsRefuses.j0]
 refine Ev.neg (by simp) ?_
 refine ev_bad k7 _ ?_ (by simp) 5 0 rfl
 intro l hl
 simp only [List.mem_cons, List.not_mem_nil, or_false] at hl
 rcases hl with rfl | rfl | rfl | rfl | rfl <;> exact ⟨by simp, by decide⟩
theorem OddsRefuses : parolelaw37_OddsRefuses.Pure := by
 intro a0 a1 a2 h0 h1 h2
 have b2 : 0 ≤ a2 ∧ a2 ≤ 255 := by
  simp only [Lit.wf, IntKind.min, IntKind.max, IntKind.signed, IntKind.bits, Bool.and_eq_true] at h2
  simpa using h2
 refine Ev.rounds (g := fun k => parolelaw37_OddsRefuses.f k a0 a1 a2) ?_
 unfold parolelaw37_OddsRefuses.f
 refine Ev.bind ev_examples (Ev.pos rfl ?_)
 have hl : Ev (fun k => parolelaw37_learned.f k [] a0 true) (learnR [] a0 true) := by
  unfold parolelaw37_learned.f
  exact Ev.bind (ev_Learn [] a0 true (by simp)) (Ev.now _)
 refine Ev.bind hl ?_
 obtain ⟨p, hp, hpe⟩ : ∃ p : Int × Int × Int, Ev (fun k => parolelaw37_loss.f k [] 3 a1) p ∧ (p.2.2 == 1) = decide (a1 < 0 ∨ 1073741824 < a1) := by
  by_cases c : a1 < 0 ∨ 1073741824 < a1
  ·refine ⟨(0, 0, 1), ?_, by simp [c]⟩
   unfold parolelaw37_loss.f
   exact Ev.bind (ev_Loss_bad [] 3 a1 c) (Ev.now _)
  ·obtain ⟨n, rfl⟩ := Int.eq_ofNat_of_zero_le (a := a1) (by omega)
   refine ⟨lossR 0 0 n, ?_, ?_⟩
   ·unfold parolelaw37_loss.f
    exact Ev.bind (ev_Loss [] 3 3 0 0 n rfl (by omega) (by omega) (by omega)) (Ev.now _)
   ·rw [decide_eq_false c]; rfl
 refine Ev.bind hp (Ev.cbind rfl ?_)
 have e2 : a2.tmod 2 = a2 % 2 := Int.tmod_eq_emod_of_nonneg b2.1
 have e3 : wrap64 (a2.tmod 2) = a2 % 2 := by rw [e2, wrap64_of (by omega) (by omega)]
 have e4 : wrap64 (1073741824 - wrap64 (a2.tmod 2)) = 1073741824 - a2 % 2 := by rw [e3, wrap64_of (by omega) (by omega)]
 rw [e4, e2]
 have hq : Ev (fun k => parolelaw37_learned.f k [(⟨5, 1073741824 - a2 % 2, 0⟩ : S71)] 5 true) (learnR [(⟨5, 1073741824 - a2 % 2, 0⟩ : S71)] 5 true) := by
  unfold parolelaw37_learned.f
  exact Ev.bind (ev_Learn _ 5 true (by simp)) (Ev.now _)
 have hj : Ev (fun k => parolelaw37_joined.f k [(⟨5, 1073741824 - a2 % 2, 0⟩ : S71)] [(⟨5, 1073741824 - a2 % 2, 0⟩ : S71)]) (joinR [(⟨5, 1073741824 - a2 % 2, 0⟩ : S71)] [(⟨5, 1073741824 - a2 % 2, 0⟩ : S71)]) := by
  unfold parolelaw37_joined.f
  exact Ev.bind (ev_Join _ _ (by simp)) (Ev.now _)
 refine Ev.bind hq (Ev.bind hj ?_)
 have f1 : ((learnR [] a0 true).2 == 1) = decide (a0 < 1 ∨ 14 < a0) := by
  unfold learnR
  by_cases c : a0 < 1 ∨ 14 < a0
  ·rw [if_pos c, decide_eq_true c]; rfl
  ·rw [if_neg c, decide_eq_false c]
   have : joinL [] [(⟨a0, 1, 0⟩ : S71)] = [(⟨a0, 1, 0⟩ : S71)] := by simp [joinL, mergeL]
   simp only [if_true, joinR, this]
   rw [right_one a0 (by omega) (by omega)]
   rfl
 have hm : a2 % 2 = 0 ∨ a2 % 2 = 1 := by omega
 have f2 : ((learnR [(⟨5, 1073741824 - a2 % 2, 0⟩ : S71)] 5 true).2 == 2) = (a2 % 2 == 0) := by
  rcases hm with e | e <;> rw [e] <;> decide +kernel
 have f3 : ((joinR [(⟨5, 1073741824 - a2 % 2, 0⟩ : S71)] [(⟨5, 1073741824 - a2 % 2, 0⟩ : S71)]).2 != 2) = false := by
  rcases hm with e | e <;> rw [e] <;> decide +kernel
 simp only [f1, f2, f3, hpe]
 have g2 : ((a2 % 2 == 0) != (a2 % 2 == 0)) = false := by simp
 rw [g2]
 have last : Ev (fun k => if ((false : Bool) = true) then parolelaw37_OddsRefuses.j0 k true true else parolelaw37_OddsRefuses.j0 k true false) true := Ev.neg (by simp) (ev_j0 true false rfl)
 by_cases c0 : a0 < 1
 ·refine Ev.pos c0 (Ev.neg (by simp [c0]) ?_)
  by_cases c1 : a1 < 0
  ·exact Ev.pos c1 (Ev.neg (by simp [c1]) last)
  ·refine Ev.neg c1 (Ev.neg ?_ last)
   by_cases c2 : 1073741824 < a1 <;> simp [c1, c2]
 ·refine Ev.neg c0 (Ev.neg ?_ ?_)
  ·by_cases c2 : 14 < a0 <;> simp [c0, c2]
  by_cases c1 : a1 < 0
  ·exact Ev.pos c1 (Ev.neg (by simp [c1]) last)
  ·refine Ev.neg c1 (Ev.neg ?_ last)
   by_cases c2 : 1073741824 < a1 <;> simp [c1, c2]
end Go.Proofs.Ytohnkcmbogcfhaa.Pure
namespace Go.Proofs.Ytohnkcmbogcfhaa.oddsRefuses
open Go.ChangeShapes Go.WideShapes Go.ChangeAt Go.RowKit
open Go.ChangeMaps (open_string shut_string)
theorem own : ownKnob Try.prog.godebug = none := by kernel_rfl
set_option maxRecDepth 100000 in
theorem lifted (os : Os) (started : os.Started) (H : Type) (enc : TypeId × Value → H) :
  ReturnsInHanded {} Try.checked os 6 .any (Rows.oddsRefusesSpec.pre6 enc Try.prog Try.f6 Rows.oddsRefusesRow.domain false) (Rows.oddsRefusesSpec.post enc Try.prog Try.f6 false true false false) := by
 refine returnsInHanded_of_change_sized (C := Try.checked) own started (by kernel_rfl) Try.func6
  (ChangeSpec.witness6 (enc := enc) (C := Try.checked) false ⟨#[], #[.int .i64 0, .int .i64 0, .int .u8 0], []⟩ 8 (by kernel_rfl) (by kernel_rfl) (by kernel_rfl) (by kernel_rfl)) ?_
 intro W base args ds gs before hval0 hW hcnd hsz0 _
 have hsz : (DataW.weightsEach Try.prog (Try.f6.params.toList ++ Rows.oddsRefusesSpec.plain.varTypes Try.prog) (ds ++ gs)).all (· ≤ reachBytes) = true := hsz0
 have hval : ∀ (j : Nat) t v, Try.f6.params[j]? = some t → args[j]? = some v → Value.okWide Try.prog W .any base t v := hval0
 have hW' := hW
 obtain ⟨p, q, hA0, hV, rfl, hfz, hnd⟩ := hW
 have hA : DataW.TrodAll enc Try.prog W 0 (fun _ => true) true Try.f6.params.toList args.toList ds p := hA0
 rw [Try.params6] at hA hval hsz
 obtain ⟨v0, vs0, d0, ds0, p0, q0, hargs, rfl, rfl, h0, r0⟩ := trodAll_cons hA
 obtain ⟨v1, vs1, d1, ds1, p1, q1, rfl, rfl, rfl, h1, r1⟩ := trodAll_cons r0
 obtain ⟨v2, vs2, d2, ds2, p2, q2, rfl, rfl, rfl, h2, r2⟩ := trodAll_cons r1
 obtain ⟨rfl, rfl, rfl⟩ := trodAll_nil r2
 obtain rfl : args = #[v0, v1, v2] := by cases args; simp_all
 obtain ⟨rfl, rfl⟩ := trodVars_none hV
 obtain ⟨a0, rfl, rfl, rfl, w0⟩ := open_int Try.underlying3 (hval 0 3 v0 rfl rfl) h0
 obtain ⟨a1, rfl, rfl, rfl, w1⟩ := open_int Try.underlying3 (hval 1 3 v1 rfl rfl) h1
 obtain ⟨a2, rfl, rfl, rfl, w2⟩ := open_int Try.underlying5 (hval 2 5 v2 rfl rfl) h2
 clear hA0 hval0 hsz0 hsz
 refine (P.parolelaw37_OddsRefuses.walk Pure.OddsRefuses a0 a1 a2 W w0 w1 w2).mono fun e W' ⟨he, bel⟩ => ?_
 subst he
 exact ⟨_, rfl, _, _, _, [], _, [], hW', trodAll_mk1 (shut_bool Try.underlying4 _), (trodAll_cons_mk (shut_int Try.underlying3 w0) (trodAll_cons_mk (shut_int Try.underlying3 w1) (trodAll_cons_mk (shut_int Try.underlying5 w2) trodAll_mk0))), rfl, bel.frame _, fun h => by cases h⟩
theorem over : Rows.oddsRefusesRow.holds Try.pinned (OpenSpec.ofChange Rows.oddsRefusesSpec) :=
 OpenClaim.holds_of_wide 6 Try.f6 rfl rfl rfl rfl rfl rfl rfl ⟨rfl, rfl, rfl, rfl, rfl⟩ rfl rfl rfl rfl rfl (by kernel_rfl) Try.func6 (by kernel_rfl)
  (of_decide_eq_true (by kernel_rfl)) (by unfold Func.isWrapper; first | (rw [if_pos (by decide +kernel)]; kernel_rfl) | (rw [if_neg (by decide +kernel)]; exact ⟨rfl, rfl⟩))
  (fun os started H enc _ => lifted os started H enc)
theorem proved : Rows.OddsRefusesSaid := over
end Go.Proofs.Ytohnkcmbogcfhaa.oddsRefuses
namespace Go.Proofs.Ytohnkcmbogcfhaa
/-- The row, under a short name, for the claim. -/
theorem oddsRefuses_holds : Rows.OddsRefusesSaid := oddsRefuses.proved
end Go.Proofs.Ytohnkcmbogcfhaa

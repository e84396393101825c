/- OddsBetween: odds lie between 0 and 1; an answer moves those of its kind, and no others. The plain law. -/
import Derived.Test.YtohnkcmbogcfhaacOddsBetween9
import Derived.Deep.Slices
import Derived.WideShapes
import Derived.OpenShut
import Derived.ProofKit
import Derived.ShutString
import Derived.ChangeOld
import Derived.SizedLaws
import Derived.Deep.OwnRows
import Derived.Laws.Rows
import Derived.Test.YtohnkcmbogcfhaaRows
set_option linter.unusedVariables false
set_option linter.unusedSimpArgs false
namespace Go.Proofs.Ytohnkcmbogcfhaa.R
open Go.RowKit Go.Proofs.Ytohnkcmbogcfhaa.P Go.Proofs.YtohnkcmbogcfhaaW.PrintWords Go.Proofs.YtohnkcmbogcfhaaW.PrintLast Go.Proofs.YtohnkcmbogcfhaaW.PrintMore
theorem wrap64_of {n : Int} (h0 : -9223372036854775808 ≤ n) (h1 : n ≤ 9223372036854775807) : wrap64 n = n := by
 unfold wrap64
 omega
theorem u64_of {n : Int} (h0 : 0 ≤ n) (h1 : n ≤ 18446744073709551615) : IntKind.u64.wrap n = n := by
 unfold IntKind.wrap
 simp [IntKind.signed, IntKind.bits]
 omega
theorem u64_def (n : Int) : IntKind.u64.wrap n = n % 18446744073709551616 := by
 unfold IntKind.wrap
 simp [IntKind.signed, IntKind.bits]
theorem Ev.ite {α : Type} {c : Prop} [Decidable c] {g f : Nat → Option α} {r : α} (h : c → Ev g r) (k : ¬ c → Ev f r) : Ev (fun n => if c then g n else f n) r := by
 by_cases hc : c
 ·exact Ev.congr (fun _ => if_pos hc) (h hc)
 ·exact Ev.congr (fun _ => if_neg hc) (k hc)
theorem Ev.pos {α : Type} {c : Prop} [Decidable c] {g f : Nat → Option α} {r : α} (hc : c) (h : Ev g r) : Ev (fun n => if c then g n else f n) r := Ev.congr (fun _ => if_pos hc) h
theorem Ev.neg {α : Type} {c : Prop} [Decidable c] {g f : Nat → Option α} {r : α} (hc : ¬ c) (h : Ev f r) : Ev (fun n => if c then g n else f n) r := Ev.congr (fun _ => if_neg hc) h
theorem Ev.succ {α : Type} {g : Nat → Option α} {r : α} (h : Ev (fun k => g (k + 1)) r) : Ev g r := Ev.step (fun _ => rfl) h
theorem Ev.const {α : Type} {o : Option α} {r : α} (h : o = some r) : Ev (fun _ => o) r := ⟨0, fun _ _ => h⟩
theorem Ev.cbind {α β : Type} {o : Option α} {f : Nat → α → Option β} {a : α} {r : β} (h : o = some a) (k : Ev (fun n => f n a) r) : Ev (fun n => o.bind (f n)) r := Ev.bind (Ev.const h) k
theorem gcd_l1 (x10 : List Int) (x11 x12 : Int) : ∀ (b a : Nat) (r : Int), Ev (fun k => rat_gcd.l0 k (Nat.gcd a b : Int) x10 x11 (wrap64 (x12 + 1))) r → Ev (fun k => rat_gcd.l1 k (a : Int) (b : Int) x10 x11 x12) r := by
 intro b
 induction b using Nat.strongRecOn with
 | _ b ih =>
  intro a r h
  refine Ev.succ ?_
  simp only [rat_gcd.l1]
  by_cases hb : b = 0
  ·subst hb
   refine Ev.neg (by simp) ?_
   simpa using h
  ·refine Ev.pos (by omega) (Ev.neg (by omega) ?_)
   have e : Int.tmod (a : Int) (b : Int) = ((a % b : Nat) : Int) := rfl
   rw [e]
   refine ih (a % b) (Nat.mod_lt _ (by omega)) b r ?_
   rw [Nat.gcd_comm, ← Nat.gcd_rec, Nat.gcd_comm]
   exact h
theorem gcd2 (a b : Nat) : Ev (fun k => rat_gcd.f k [(a : Int), (b : Int)]) (Nat.gcd a b : Int) := by
 unfold rat_gcd.f
 refine Ev.pos (by simp) (Ev.pos (by simp) ?_)
 simp only [rd, List.drop, List.getD, List.length]
 refine Ev.succ ?_
 simp only [rat_gcd.l0]
 refine Ev.pos (by simp) (Ev.pos (by simp) (Ev.pos (by simp) ?_))
 refine gcd_l1 _ _ _ b a _ ?_
 refine Ev.succ ?_
 simp only [rat_gcd.l0]
 exact Ev.neg (by rw [wrap64_of (by omega) (by omega)]; simp) (Ev.now _)
theorem number_small (neg : Bool) (lo : Nat) (h : lo ≤ 4611686018427387904) : Ev (fun k => rat_wide_number.f k neg 0 (lo : Int)) (if neg then -(lo : Int) else (lo : Int), true) := by
 unfold rat_wide_number.f
 refine Ev.neg (by omega) (Ev.succ ?_)
 simp only [rat_wide_number.j0]
 refine Ev.neg (by simp; omega) ?_
 rw [wrap64_of (n := (lo : Int)) (by omega) (by omega), wrap64_of (n := -(lo : Int)) (by omega) (by omega)]
 cases neg <;> simp <;> exact Ev.now _
theorem made_small (neg : Bool) (a b : Nat) (ha : a ≤ 4611686018427387904) (hb : b ≤ 4611686018427387904) : Ev (fun k => rat_made.f k neg 0 (a : Int) false 0 (b : Int)) (if neg then -(a : Int) else (a : Int), (b : Int), 0) := by
 unfold rat_made.f
 refine Ev.bind (number_small neg a ha) (Ev.bind (number_small false b hb) ?_)
 exact Ev.pos rfl (Ev.pos rfl (Ev.now _))
/-- New of two numbers that are not negative. -/
theorem new_nat (n d : Nat) (hn : n ≤ 4611686018427387904) (hd : 0 < d) (hd2 : d ≤ 4611686018427387904) : Ev (fun k => rat_New.f k (n : Int) (d : Int)) (((n / Nat.gcd n d : Nat) : Int), ((d / Nat.gcd n d : Nat) : Int), 0) := by
 unfold rat_New.f
 refine Ev.neg (by omega) ?_
 by_cases h0 : n = 0
 ·subst h0
  refine Ev.pos (by simp) ?_
  simp only [rat_zero.f, Option.bind_some, Nat.gcd_zero_left, Nat.zero_div, Nat.div_self hd]
  exact Ev.now _
 ·refine Ev.neg (by omega) ?_
  have ea : ∀ m : Nat, m ≤ 4611686018427387904 → rat_abs.f (m : Int) = some (m : Int) := by
   intro m hm
   unfold rat_abs.f
   rw [if_neg (by omega), u64_of (by omega) (by omega)]
  have hg : 0 < Nat.gcd n d := Nat.gcd_pos_of_pos_right _ hd
  refine Ev.cbind (ea n hn) (Ev.cbind (ea d hd2) (Ev.bind (gcd2 n d) (Ev.cbind (ea n hn) (Ev.neg (by omega) (Ev.cbind (ea d hd2) ?_)))))
  have e1 : ∀ m : Nat, m ≤ 4611686018427387904 → IntKind.u64.wrap (Int.tdiv (m : Int) (Nat.gcd n d : Int)) = ((m / Nat.gcd n d : Nat) : Int) := by
   intro m hm
   have e : Int.tdiv (m : Int) (Nat.gcd n d : Int) = ((m / Nat.gcd n d : Nat) : Int) := rfl
   have h1 := Nat.div_le_self m (Nat.gcd n d)
   rw [e]
   generalize m / Nat.gcd n d = q at h1
   exact u64_of (by omega) (by omega)
  rw [e1 n hn, e1 d hd2]
  have e2 : (decide ((n : Int) < 0) != decide ((d : Int) < 0)) = false := by
   rw [decide_eq_false (by omega), decide_eq_false (by omega)]; rfl
  rw [e2]
  refine Ev.bind (made_small false _ _ (Nat.le_trans (Nat.div_le_self _ _) hn) (Nat.le_trans (Nat.div_le_self _ _) hd2)) ?_
  exact Ev.now _
end Go.Proofs.Ytohnkcmbogcfhaa.R
namespace Go.Proofs.Ytohnkcmbogcfhaa.R
open Go.RowKit Go.Proofs.Ytohnkcmbogcfhaa.P Go.Proofs.YtohnkcmbogcfhaaW.PrintWords Go.Proofs.YtohnkcmbogcfhaaW.PrintLast Go.Proofs.YtohnkcmbogcfhaaW.PrintMore
def mergeL : Nat → List S71 → List S71 → List S71
 | 0, _, _ => []
 | _ + 1, [], [] => []
 | n + 1, x :: a, [] => x :: mergeL n a []
 | n + 1, [], y :: b => y :: mergeL n [] b
 | n + 1, x :: a, y :: b => if x.f0 < y.f0 then x :: mergeL n a (y :: b) else if y.f0 < x.f0 then y :: mergeL n (x :: a) b else ⟨x.f0, wrap64 (x.f1 + y.f1), wrap64 (x.f2 + y.f2)⟩ :: mergeL n a b
theorem rd_cons (x : S71) (a : List S71) : rd_T71 (x :: a) 0 = x := rfl
theorem merge_l0 : ∀ (n : Nat) (a b acc : List S71), a.length + b.length ≤ n → acc.length + n < 5864062014805 → Ev (fun k => api_Answered.l0 k a b acc) (acc ++ mergeL n a b) := by
 intro n
 induction n with
 | zero =>
  intro a b acc h1 h2
  obtain rfl : a = [] := List.length_eq_zero_iff.1 (by omega)
  obtain rfl : b = [] := List.length_eq_zero_iff.1 (by omega)
  refine Ev.succ ?_
  simp only [api_Answered.l0, mergeL, List.append_nil]
  exact Ev.neg (by rw [show wrap64 (((([] : List S71).length : Nat) : Int) + ((([] : List S71).length : Nat) : Int)) = 0 from wrap64_of (by simp) (by simp)]; simp) (Ev.now _)
 | succ n ih =>
  intro a b acc h1 h2
  have hw : wrap64 ((a.length : Int) + (b.length : Int)) = (a.length : Int) + (b.length : Int) := wrap64_of (by omega) (by omega)
  have step : ∀ (a' b' : List S71) (z : S71), a'.length + b'.length ≤ n → Ev (fun k => api_Answered.l0 k a' b' (acc ++ [z])) (acc ++ z :: mergeL n a' b') := by
   intro a' b' z h
   have := ih a' b' (acc ++ [z]) h (by simp; omega)
   simpa using this
  cases a with
  | nil =>
   cases b with
   | nil =>
    refine Ev.succ ?_
    simp only [api_Answered.l0, mergeL, List.append_nil]
    exact Ev.neg (by rw [show wrap64 (((([] : List S71).length : Nat) : Int) + ((([] : List S71).length : Nat) : Int)) = 0 from wrap64_of (by simp) (by simp)]; simp) (Ev.now _)
   | cons y b =>
    simp only [List.length_cons, List.length_nil] at h1 hw
    refine Ev.succ ?_
    simp only [api_Answered.l0, mergeL, rd_cons, odds_Join_2.f, Option.bind_some, List.length_nil, List.length_cons]
    refine Ev.pos (by rw [hw]; omega) (Ev.neg (by omega) (Ev.neg (by simp) (Ev.succ ?_)))
    simp only [api_Answered.j1, rd_cons, List.length_nil, List.length_cons]
    refine Ev.neg (by simp) (Ev.pos (by simp) (Ev.pos (by omega) (Ev.pos (by omega) (Ev.pos (by omega) ?_))))
    exact step [] b y (by simp; omega)
  | cons x a =>
   cases b with
   | nil =>
    simp only [List.length_cons, List.length_nil] at h1 hw
    refine Ev.succ ?_
    simp only [api_Answered.l0, mergeL, rd_cons, odds_Join_2.f, Option.bind_some, List.length_nil, List.length_cons]
    refine Ev.pos (by rw [hw]; omega) (Ev.pos (by simp) (Ev.succ ?_))
    simp only [api_Answered.j1, rd_cons, List.length_nil, List.length_cons]
    refine Ev.pos trivial (Ev.pos (by omega) (Ev.pos (by omega) (Ev.pos (by omega) ?_)))
    exact step a [] x (by simp; omega)
   | cons y b =>
    simp only [List.length_cons] at h1 hw
    refine Ev.succ ?_
    simp only [api_Answered.l0, mergeL, rd_cons, odds_Join_2.f, Option.bind_some, List.length_cons]
    refine Ev.pos (by rw [hw]; omega) (Ev.neg (by omega) (Ev.pos (by omega) (Ev.pos (by omega) (Ev.pos (by omega) (Ev.succ ?_)))))
    simp only [api_Answered.j1, rd_cons, odds_Join_2.f, odds_Join_1.f, Option.bind_some, List.length_cons]
    by_cases hxy : x.f0 < y.f0
    ·rw [if_pos hxy]
     refine Ev.pos (by simpa using hxy) (Ev.pos (by omega) (Ev.pos (by omega) (Ev.pos (by omega) ?_)))
     exact step a (y :: b) x (by simp; omega)
    ·rw [if_neg hxy]
     refine Ev.neg (by simpa using hxy) (Ev.neg (by omega) (Ev.pos (by omega) (Ev.pos (by omega) ?_)))
     by_cases hyx : y.f0 < x.f0
     ·rw [if_pos hyx]
      refine Ev.pos hyx (Ev.pos (by omega) (Ev.pos (by omega) ?_))
      exact step (x :: a) b y (by simp; omega)
     ·rw [if_neg hyx]
      refine Ev.neg hyx (Ev.pos (by omega) (Ev.pos (by omega) (Ev.pos (by omega) ?_)))
      exact step a b _ (by omega)
/-- Which books are right. -/
def okAt (p : Option S71) (x : S71) : Bool := decide (1 ≤ x.f0) && decide (x.f0 ≤ 14) && decide (0 ≤ x.f1) && decide (0 ≤ x.f2) && decide (x.f1 ≤ 1073741824) && decide (x.f2 ≤ 1073741824) && (match p with | none => true | some q => decide (q.f0 < x.f0))
def rightFrom : Option S71 → List S71 → Bool
 | _, [] => true
 | p, x :: l => okAt p x && rightFrom (some x) l
def rightB (l : List S71) : Bool := rightFrom none l
theorem right_l0 (l : List S71) (hl : l.length < 1000000000000) : ∀ (d i : Nat), i + d = l.length → Ev (fun k => odds_Right.l0 k l l (l.length : Int) (i : Int)) (if rightFrom (if i = 0 then none else l[i - 1]?) (l.drop i) then 0 else 1) := by
 intro d
 induction d with
 | zero =>
  intro i h
  refine Ev.succ ?_
  simp only [odds_Right.l0]
  have e : l.drop i = [] := List.drop_eq_nil_of_le (by omega)
  rw [e]
  simp only [rightFrom, if_true]
  exact Ev.neg (by omega) (Ev.now _)
 | succ d ih =>
  intro i h
  have hi : i < l.length := by omega
  refine Ev.succ ?_
  simp only [odds_Right.l0]
  have e : l.drop i = l[i] :: l.drop (i + 1) := List.drop_eq_getElem_cons hi
  have er : rd_T71 l (i : Int) = l[i] := by unfold rd_T71; simp [hi]
  have hw : wrap64 ((i : Int) + 1) = ((i + 1 : Nat) : Int) := by rw [wrap64_of (by omega) (by omega)]; omega
  have hih := ih (i + 1) (by omega)
  rw [e]
  generalize hx : l[i] = x at er ⊢
  have hprev : l[i + 1 - 1]? = some x := by simp [hi, hx]
  rw [hprev] at hih
  simp only [Nat.add_eq_zero_iff, Nat.one_ne_zero, and_false, if_false] at hih
  simp only [er, hw]
  refine Ev.pos (by omega) (Ev.pos (by omega) (Ev.pos (by omega) ?_))
  have bad : ∀ p, okAt p x = false → (if rightFrom p (x :: l.drop (i + 1)) = true then (0 : Int) else 1) = 1 := by
   intro p hp
   simp [rightFrom, hp]
  by_cases c1 : x.f0 < 1
  ·refine Ev.pos c1 ?_
   rw [bad _ (by unfold okAt; simp; omega)]
   exact Ev.now _
  refine Ev.neg c1 ?_
  by_cases c2 : x.f0 > 14
  ·refine Ev.pos c2 ?_
   rw [bad _ (by unfold okAt; simp; omega)]
   exact Ev.now _
  refine Ev.neg c2 ?_
  by_cases c3 : mn x.f1 x.f2 < 0
  ·refine Ev.pos c3 ?_
   rw [bad _ (by unfold okAt; unfold mn at c3; simp; split at c3 <;> omega)]
   exact Ev.now _
  refine Ev.neg c3 ?_
  by_cases c4 : mx x.f1 x.f2 > 1073741824
  ·refine Ev.pos c4 ?_
   rw [bad _ (by unfold okAt; unfold mx at c4; simp; split at c4 <;> omega)]
   exact Ev.now _
  refine Ev.neg c4 ?_
  have hok : okAt none x = true := by
   unfold okAt
   unfold mn at c3
   unfold mx at c4
   simp
   split at c3 <;> split at c4 <;> omega
  by_cases c5 : i = 0
  ·subst c5
   refine Ev.neg (by simp) ?_
   simpa [rightFrom, hok] using hih
  ·refine Ev.pos (by omega) ?_
   have hp : ((i : Int) - 1) = ((i - 1 : Nat) : Int) := by omega
   have hw2 : wrap64 ((i : Int) - 1) = ((i - 1 : Nat) : Int) := by rw [wrap64_of (by omega) (by omega)]; omega
   rw [hw2]
   have hj : i - 1 < l.length := by omega
   have er2 : rd_T71 l ((i - 1 : Nat) : Int) = l[i - 1] := by unfold rd_T71; simp [hj]
   rw [er2]
   refine Ev.pos (by omega) (Ev.pos (by omega) ?_)
   have hq : l[i - 1]? = some l[i - 1] := by simp [hj]
   simp only [c5, if_false]
   rw [hq]
   generalize l[i - 1] = q
   by_cases c6 : q.f0 ≥ x.f0
   ·refine Ev.pos c6 ?_
    rw [bad _ (by unfold okAt; simp; omega)]
    exact Ev.now _
   ·refine Ev.neg c6 ?_
    have hok2 : okAt (some q) x = true := by
     unfold okAt at hok ⊢
     simp at hok ⊢
     omega
    simpa [rightFrom, hok2] using hih
theorem ev_Right (l : List S71) (hl : l.length < 1000000000000) : Ev (fun k => odds_Right.f k l) (if rightB l then 0 else 1) := by
 have := right_l0 l hl l.length 0 (by omega)
 rw [List.drop_zero] at this
 exact this
theorem mergeL_length : ∀ (n : Nat) (a b : List S71), (mergeL n a b).length ≤ n := by
 intro n
 induction n with
 | zero => intro a b; simp [mergeL]
 | succ n ih =>
  intro a b
  cases a <;> cases b <;> simp only [mergeL]
  ·simp
  ·have := ih [] ‹_›; simp; omega
  ·have := ih ‹_› []; simp; omega
  ·split
   ·simp; exact ih _ _
   ·split
    ·simp; exact ih _ _
    ·simp; exact ih _ _
def joinL (a b : List S71) : List S71 := mergeL (a.length + b.length) a b
def joinR (a b : List S71) : List S71 × Int := if rightB (joinL a b) then (joinL a b, 0) else ([], 2)
theorem ev_Join (a b : List S71) (h : a.length + b.length < 1000000000000) : Ev (fun k => odds_Join.f k a b) (joinR a b) := by
 unfold odds_Join.f
 have h1 : Ev (fun k => api_Answered.f k a b) (joinL a b) := by
  have := merge_l0 (a.length + b.length) a b [] (Nat.le_refl _) (by simp; omega)
  simpa [api_Answered.f, joinL] using this
 refine Ev.bind h1 ?_
 have h2 := mergeL_length (a.length + b.length) a b
 refine Ev.bind (ev_Right _ (by unfold joinL; omega)) ?_
 unfold joinR
 cases rightB (joinL a b) <;> simp <;> exact Ev.now _
def learnR (l : List S71) (k : Int) (right : Bool) : List S71 × Int := if k < 1 ∨ 14 < k then ([], 1) else joinR l [if right then ⟨k, 1, 0⟩ else ⟨k, 0, 1⟩]
theorem ev_Learn (l : List S71) (k : Int) (right : Bool) (h : l.length < 100000000000) : Ev (fun n => odds_Learn.f n l k right) (learnR l k right) := by
 unfold odds_Learn.f
 refine Ev.ite (fun c => ?_) (fun c => ?_)
 ·refine Ev.succ ?_
  simp only [odds_Learn.j0]
  unfold learnR
  rw [if_pos (Or.inl c)]
  exact Ev.pos trivial (Ev.now _)
 ·refine Ev.succ ?_
  simp only [odds_Learn.j0]
  unfold learnR
  by_cases c2 : k > 14
  ·rw [if_pos (Or.inr c2)]
   exact Ev.pos (by simpa using c2) (Ev.now _)
  ·rw [if_neg (by omega)]
   refine Ev.neg (by simpa using c2) ?_
   cases right
   ·refine Ev.neg (by simp) ?_
    exact Ev.bind (ev_Join _ _ (by simp; omega)) (Ev.now _)
   ·refine Ev.pos rfl ?_
    exact Ev.bind (ev_Join _ _ (by simp; omega)) (Ev.now _)
/-- The loss of a kind, of which the book has these counts. -/
def lossR (x y cost : Nat) : Int × Int × Int := ((((x + 1) * cost / Nat.gcd ((x + 1) * cost) (x + y + 2) : Nat) : Int), (((x + y + 2) / Nat.gcd ((x + 1) * cost) (x + y + 2) : Nat) : Int), 0)
theorem ev_Loss (l : List S71) (kind q : Int) (x y cost : Nat) (hof : odds_book_of.f l kind = some (q, (x : Int), (y : Int))) (hx : x ≤ 1073741824) (hy : y ≤ 1073741824) (hc : cost ≤ 1073741824) : Ev (fun k => odds_Loss.f k l kind (cost : Int)) (lossR x y cost) := by
 unfold odds_Loss.f
 refine Ev.neg (by omega) (Ev.succ ?_)
 simp only [odds_Loss.j0]
 refine Ev.neg (by simp; omega) (Ev.cbind hof ?_)
 have hm : (x + 1) * cost ≤ 1073741825 * 1073741824 := Nat.mul_le_mul (by omega) hc
 have e1 : wrap64 (wrap64 ((x : Int) + 1) * (cost : Int)) = (((x + 1) * cost : Nat) : Int) := by
  rw [wrap64_of (n := (x : Int) + 1) (by omega) (by omega)]
  have : ((x : Int) + 1) * (cost : Int) = (((x + 1) * cost : Nat) : Int) := by push_cast; rfl
  rw [this, wrap64_of (by omega) (by omega)]
 have e2 : wrap64 (wrap64 ((x : Int) + (y : Int)) + 2) = ((x + y + 2 : Nat) : Int) := by
  rw [wrap64_of (n := (x : Int) + (y : Int)) (by omega) (by omega), wrap64_of (by omega) (by omega)]
  omega
 simp only [e1, e2]
 exact Ev.bind (new_nat _ _ (by omega) (by omega) (by omega)) (Ev.now _)
end Go.Proofs.Ytohnkcmbogcfhaa.R
namespace Go.Proofs.Ytohnkcmbogcfhaa.R
open Go.RowKit Go.Proofs.Ytohnkcmbogcfhaa.P Go.Proofs.YtohnkcmbogcfhaaW.PrintWords Go.Proofs.YtohnkcmbogcfhaaW.PrintLast Go.Proofs.YtohnkcmbogcfhaaW.PrintMore
def Sorted (l : List S71) : Prop := l.Pairwise (fun x y => x.f0 < y.f0)
/-- An element of a book, but for the greatest count. -/
def okx (x : S71) : Prop := 1 ≤ x.f0 ∧ x.f0 ≤ 14 ∧ 0 ≤ x.f1 ∧ 0 ≤ x.f2
def small (x : S71) : Prop := x.f1 ≤ 1073741824 ∧ x.f2 ≤ 1073741824
def Pre (l : List S71) : Prop := Sorted l ∧ ∀ x ∈ l, okx x
theorem okAt_iff (p : Option S71) (x : S71) : okAt p x = true ↔ okx x ∧ small x ∧ ∀ q, p = some q → q.f0 < x.f0 := by
 unfold okAt okx small
 cases p with
 | none => simp; omega
 | some q => simp; omega
theorem rightFrom_iff : ∀ (l : List S71) (p : Option S71), rightFrom p l = true ↔ Sorted l ∧ (∀ x ∈ l, okx x ∧ small x) ∧ ∀ q, p = some q → ∀ x ∈ l, q.f0 < x.f0 := by
 intro l
 induction l with
 | nil => intro p; simp [rightFrom, Sorted]
 | cons x l ih =>
  intro p
  simp only [rightFrom, Bool.and_eq_true, okAt_iff, ih]
  unfold Sorted
  simp only [List.pairwise_cons, List.mem_cons, forall_eq_or_imp]
  constructor
  ·rintro ⟨⟨h1, h2, h3⟩, h4, h5, h6⟩
   exact ⟨⟨fun y hy => h6 x rfl y hy, h4⟩, ⟨⟨h1, h2⟩, h5⟩, fun q hq => ⟨h3 q hq, fun y hy => Int.lt_trans (h3 q hq) (h6 x rfl y hy)⟩⟩
  ·rintro ⟨⟨h1, h2⟩, ⟨⟨h3, h4⟩, h5⟩, h6⟩
   exact ⟨⟨h3, h4, fun q hq => (h6 q hq).1⟩, h2, h5, fun q hq y hy => by cases hq; exact h1 y hy⟩
theorem rightB_iff (l : List S71) : rightB l = true ↔ Pre l ∧ ∀ x ∈ l, small x := by
 unfold rightB Pre
 rw [rightFrom_iff]
 simp only [reduceCtorEq, false_implies, implies_true, and_true]
 constructor
 ·rintro ⟨h1, h2⟩
  exact ⟨⟨h1, fun x hx => (h2 x hx).1⟩, fun x hx => (h2 x hx).2⟩
 ·rintro ⟨⟨h1, h2⟩, h3⟩
  exact ⟨h1, fun x hx => ⟨h2 x hx, h3 x hx⟩⟩
/-- The counts of a kind. -/
def look (l : List S71) (k : Int) : S71 := (l.find? (fun x => x.f0 == k)).getD ⟨k, 0, 0⟩
def has (l : List S71) (k : Int) : Bool := l.any (fun x => x.f0 == k)
theorem look_nil (k : Int) : look [] k = ⟨k, 0, 0⟩ := rfl
theorem look_cons (x : S71) (l : List S71) (k : Int) : look (x :: l) k = if x.f0 = k then x else look l k := by
 unfold look
 by_cases h : x.f0 = k <;> simp [h]
theorem has_cons (x : S71) (l : List S71) (k : Int) : has (x :: l) k = (x.f0 == k || has l k) := by simp [has]
theorem look_f0 (l : List S71) (k : Int) : (look l k).f0 = k := by
 induction l with
 | nil => rfl
 | cons x l ih =>
  rw [look_cons]
  split
  ·assumption
  ·exact ih
theorem look_not (l : List S71) (k : Int) (h : has l k = false) : look l k = ⟨k, 0, 0⟩ := by
 induction l with
 | nil => rfl
 | cons x l ih =>
  rw [has_cons, Bool.or_eq_false_iff] at h
  rw [look_cons, if_neg (by simpa using h.1), ih h.2]
theorem has_iff (l : List S71) (k : Int) : has l k = true ↔ ∃ x ∈ l, x.f0 = k := by simp [has]
theorem look_mem (l : List S71) (k : Int) (h : has l k = true) : look l k ∈ l := by
 induction l with
 | nil => simp [has] at h
 | cons x l ih =>
  rw [look_cons]
  split
  ·simp
  ·rename_i hne
   rw [has_cons] at h
   have : (x.f0 == k) = false := by simpa using hne
   rw [this, Bool.false_or] at h
   exact List.mem_cons_of_mem _ (ih h)
theorem look_of (l : List S71) (hs : Sorted l) (x : S71) (hx : x ∈ l) : look l x.f0 = x := by
 induction l with
 | nil => simp at hx
 | cons y l ih =>
  unfold Sorted at hs ih
  rw [List.pairwise_cons] at hs
  rw [look_cons]
  rcases List.mem_cons.1 hx with rfl | hx
  ·simp
  ·have := hs.1 x hx
   rw [if_neg (by omega)]
   exact ih hs.2 hx
theorem look_nn (l : List S71) (h : ∀ x ∈ l, okx x) (k : Int) : 0 ≤ (look l k).f1 ∧ 0 ≤ (look l k).f2 := by
 cases hk : has l k with
 | true => have := h _ (look_mem l k hk); unfold okx at this; omega
 | false => rw [look_not l k hk]; simp
theorem look_small (l : List S71) (h : ∀ x ∈ l, small x) (k : Int) : small (look l k) := by
 cases hk : has l k with
 | true => exact h _ (look_mem l k hk)
 | false => rw [look_not l k hk]; simp [small]
/-- What joining gives, kind by kind. -/
theorem merge_spec : ∀ (n : Nat) (a b : List S71), a.length + b.length ≤ n → Sorted a → Sorted b → (∀ x ∈ a, okx x ∧ small x) → (∀ x ∈ b, okx x ∧ small x) →
  Pre (mergeL n a b) ∧ (∀ k, has (mergeL n a b) k = (has a k || has b k)) ∧ (∀ k, look (mergeL n a b) k = ⟨k, (look a k).f1 + (look b k).f1, (look a k).f2 + (look b k).f2⟩) := by
 intro n
 induction n with
 | zero =>
  intro a b h ha hb _ _
  obtain rfl : a = [] := List.length_eq_zero_iff.1 (by omega)
  obtain rfl : b = [] := List.length_eq_zero_iff.1 (by omega)
  simp [mergeL, Pre, Sorted, has, look_nil]
 | succ n ih =>
  intro a b h ha hb oa ob
  cases a with
  | nil =>
   cases b with
   | nil => simp [mergeL, Pre, Sorted, has, look_nil]
   | cons y b =>
    unfold Sorted at hb
    rw [List.pairwise_cons] at hb
    obtain ⟨⟨r1, r2⟩, r3, r4⟩ := ih [] b (by simp at h ⊢; omega) ha hb.2 (by simp) (fun x hx => ob x (by simp [hx]))
    simp only [mergeL]
    have hlt : ∀ z ∈ mergeL n [] b, y.f0 < z.f0 := by
     intro z hz
     have : has (mergeL n [] b) z.f0 = true := (has_iff _ _).2 ⟨z, hz, rfl⟩
     rw [r3] at this
     simp [has] at this
     obtain ⟨w, hw, hwe⟩ := this
     have := hb.1 w hw
     omega
    refine ⟨⟨?_, ?_⟩, ?_, ?_⟩
    ·unfold Sorted; rw [List.pairwise_cons]; exact ⟨hlt, r1⟩
    ·intro x hx
     rcases List.mem_cons.1 hx with rfl | hx
     ·exact (ob _ (by simp)).1
     ·exact r2 x hx
    ·intro k; rw [has_cons, has_cons, r3]; simp [has]
    ·intro k
     rw [look_cons, look_cons, r4, look_nil]
     split
     ·rename_i e; subst e; simp
     ·rfl
  | cons x a =>
   unfold Sorted at ha
   rw [List.pairwise_cons] at ha
   cases b with
   | nil =>
    obtain ⟨⟨r1, r2⟩, r3, r4⟩ := ih a [] (by simp at h ⊢; omega) ha.2 hb (fun x hx => oa x (by simp [hx])) (by simp)
    simp only [mergeL]
    have hlt : ∀ z ∈ mergeL n a [], x.f0 < z.f0 := by
     intro z hz
     have : has (mergeL n a []) z.f0 = true := (has_iff _ _).2 ⟨z, hz, rfl⟩
     rw [r3] at this
     simp [has] at this
     obtain ⟨w, hw, hwe⟩ := this
     have := ha.1 w hw
     omega
    refine ⟨⟨?_, ?_⟩, ?_, ?_⟩
    ·unfold Sorted; rw [List.pairwise_cons]; exact ⟨hlt, r1⟩
    ·intro y hy
     rcases List.mem_cons.1 hy with rfl | hy
     ·exact (oa _ (by simp)).1
     ·exact r2 y hy
    ·intro k; rw [has_cons, has_cons, r3, Bool.or_assoc]
    ·intro k
     rw [look_cons, look_cons, r4, look_nil]
     split
     ·rename_i e; subst e; simp
     ·rfl
   | cons y b =>
    have hb' := hb
    unfold Sorted at hb
    rw [List.pairwise_cons] at hb
    simp only [mergeL]
    have oxx := oa x (by simp)
    have oyy := ob y (by simp)
    by_cases hxy : x.f0 < y.f0
    ·rw [if_pos hxy]
     obtain ⟨⟨r1, r2⟩, r3, r4⟩ := ih a (y :: b) (by simp at h ⊢; omega) ha.2 hb' (fun z hz => oa z (by simp [hz])) ob
     have hlt : ∀ z ∈ mergeL n a (y :: b), x.f0 < z.f0 := by
      intro z hz
      have : has (mergeL n a (y :: b)) z.f0 = true := (has_iff _ _).2 ⟨z, hz, rfl⟩
      rw [r3, Bool.or_eq_true] at this
      rcases this with hh | hh
      ·obtain ⟨w, hw, hwe⟩ := (has_iff _ _).1 hh; have := ha.1 w hw; omega
      ·obtain ⟨w, hw, hwe⟩ := (has_iff _ _).1 hh
       rcases List.mem_cons.1 hw with rfl | hw
       ·omega
       ·have := hb.1 w hw; omega
     have nb : ∀ k, x.f0 = k → has (y :: b) k = false := by
      intro k hk
      cases hc : has (y :: b) k with
      | false => rfl
      | true =>
       obtain ⟨w, hw, hwe⟩ := (has_iff _ _).1 hc
       rcases List.mem_cons.1 hw with rfl | hw
       ·omega
       ·have := hb.1 w hw; omega
     refine ⟨⟨?_, ?_⟩, ?_, ?_⟩
     ·unfold Sorted; rw [List.pairwise_cons]; exact ⟨hlt, r1⟩
     ·intro z hz
      rcases List.mem_cons.1 hz with rfl | hz
      ·exact oxx.1
      ·exact r2 z hz
     ·intro k; rw [has_cons, has_cons, r3, Bool.or_assoc]
     ·intro k
      rw [look_cons, look_cons (x := x), r4]
      split
      ·rename_i e
       rw [look_not _ k (nb k e)]; subst e; simp
      ·rfl
    ·rw [if_neg hxy]
     by_cases hyx : y.f0 < x.f0
     ·rw [if_pos hyx]
      have ha' : Sorted (x :: a) := by unfold Sorted; rw [List.pairwise_cons]; exact ha
      obtain ⟨⟨r1, r2⟩, r3, r4⟩ := ih (x :: a) b (by simp at h ⊢; omega) ha' hb.2 oa (fun z hz => ob z (by simp [hz]))
      have hlt : ∀ z ∈ mergeL n (x :: a) b, y.f0 < z.f0 := by
       intro z hz
       have : has (mergeL n (x :: a) b) z.f0 = true := (has_iff _ _).2 ⟨z, hz, rfl⟩
       rw [r3, Bool.or_eq_true] at this
       rcases this with hh | hh
       ·obtain ⟨w, hw, hwe⟩ := (has_iff _ _).1 hh
        rcases List.mem_cons.1 hw with rfl | hw
        ·omega
        ·have := ha.1 w hw; omega
       ·obtain ⟨w, hw, hwe⟩ := (has_iff _ _).1 hh; have := hb.1 w hw; omega
      have na : ∀ k, y.f0 = k → has (x :: a) k = false := by
       intro k hk
       cases hc : has (x :: a) k with
       | false => rfl
       | true =>
        obtain ⟨w, hw, hwe⟩ := (has_iff _ _).1 hc
        rcases List.mem_cons.1 hw with rfl | hw
        ·omega
        ·have := ha.1 w hw; omega
      refine ⟨⟨?_, ?_⟩, ?_, ?_⟩
      ·unfold Sorted; rw [List.pairwise_cons]; exact ⟨hlt, r1⟩
      ·intro z hz
       rcases List.mem_cons.1 hz with rfl | hz
       ·exact oyy.1
       ·exact r2 z hz
      ·intro k; rw [has_cons, r3, has_cons y b, ← Bool.or_assoc, ← Bool.or_assoc, Bool.or_comm (y.f0 == k)]
      ·intro k
       rw [look_cons, look_cons (x := y), r4]
       split
       ·rename_i e
        rw [look_not _ k (na k e)]; subst e; simp
       ·rfl
     ·rw [if_neg hyx]
      obtain ⟨⟨r1, r2⟩, r3, r4⟩ := ih a b (by simp at h ⊢; omega) ha.2 hb.2 (fun z hz => oa z (by simp [hz])) (fun z hz => ob z (by simp [hz]))
      have exy : x.f0 = y.f0 := by omega
      unfold okx small at oxx oyy
      have w1 : wrap64 (x.f1 + y.f1) = x.f1 + y.f1 := wrap64_of (by omega) (by omega)
      have w2 : wrap64 (x.f2 + y.f2) = x.f2 + y.f2 := wrap64_of (by omega) (by omega)
      rw [w1, w2]
      have hlt : ∀ z ∈ mergeL n a b, x.f0 < z.f0 := by
       intro z hz
       have : has (mergeL n a b) z.f0 = true := (has_iff _ _).2 ⟨z, hz, rfl⟩
       rw [r3, Bool.or_eq_true] at this
       rcases this with hh | hh
       ·obtain ⟨w, hw, hwe⟩ := (has_iff _ _).1 hh; have := ha.1 w hw; omega
       ·obtain ⟨w, hw, hwe⟩ := (has_iff _ _).1 hh; have := hb.1 w hw; omega
      refine ⟨⟨?_, ?_⟩, ?_, ?_⟩
      ·unfold Sorted; rw [List.pairwise_cons]; exact ⟨hlt, r1⟩
      ·intro z hz
       rcases List.mem_cons.1 hz with rfl | hz
       ·unfold okx; simp; omega
       ·exact r2 z hz
      ·intro k
       rw [has_cons, r3, has_cons, has_cons, exy]
       cases (y.f0 == k) <;> simp
      ·intro k
       rw [look_cons, look_cons (x := x), look_cons (x := y), r4]
       simp only
       by_cases e : x.f0 = k
       ·rw [if_pos e, if_pos e, if_pos (by omega)]; subst e; rfl
       ·rw [if_neg e, if_neg e, if_neg (by omega)]
def Book (l : List S71) : Prop := Pre l ∧ ∀ x ∈ l, small x
theorem book_iff (l : List S71) : rightB l = true ↔ Book l := rightB_iff l
theorem join_spec (a b : List S71) (ha : Book a) (hb : Book b) :
  Pre (joinL a b) ∧ (∀ k, has (joinL a b) k = (has a k || has b k)) ∧ (∀ k, look (joinL a b) k = ⟨k, (look a k).f1 + (look b k).f1, (look a k).f2 + (look b k).f2⟩) :=
 merge_spec _ a b (Nat.le_refl _) ha.1.1 hb.1.1 (fun x hx => ⟨ha.1.2 x hx, ha.2 x hx⟩) (fun x hx => ⟨hb.1.2 x hx, hb.2 x hx⟩)
theorem sorted_length (l : List S71) (h : Pre l) : l.length ≤ 14 := by
 have key : ∀ (l : List S71) (m : Int), Sorted l → (∀ x ∈ l, m ≤ x.f0 ∧ x.f0 ≤ 14) → m ≤ 15 → (l.length : Int) ≤ 15 - m := by
  intro l
  induction l with
  | nil => intro m _ _ hm; simp; omega
  | cons x l ih =>
   intro m hs hx hm
   unfold Sorted at hs
   rw [List.pairwise_cons] at hs
   have h0 := hx x (by simp)
   have := ih (x.f0 + 1) hs.2 (fun y hy => ⟨by have := hs.1 y hy; omega, (hx y (by simp [hy])).2⟩) (by omega)
   simp only [List.length_cons]
   omega
 have := key l 1 h.1 (fun x hx => by have := h.2 x hx; unfold okx at this; omega) (by omega)
 omega
/-- What the binary search finds. -/
theorem bsl_part (l : List S71) (t : Int) (n : Nat) (hp : ∀ i, i < n → wrap64 ((l.getD i z71).f0 - t) < 0) (hq : ∀ i, n ≤ i → i < l.length → ¬ wrap64 ((l.getD i z71).f0 - t) < 0) (hn : n ≤ l.length) :
  ∀ (m i j : Nat), i ≤ n → n ≤ j → j ≤ l.length → j - i ≤ m → bsl l t m i j = n := by
 intro m
 induction m with
 | zero => intro i j h1 h2 h3 h4; simp [bsl]; omega
 | succ m ih =>
  intro i j h1 h2 h3 h4
  unfold bsl
  by_cases hij : i < j
  ·rw [if_pos hij]
   by_cases hw : wrap64 ((l.getD ((i + j) / 2) z71).f0 - t) < 0
   ·rw [if_pos hw]
    have : (i + j) / 2 < n := by
     rcases Nat.lt_or_ge ((i + j) / 2) n with h | h
     ·exact h
     ·exact absurd hw (hq _ h (by omega))
    exact ih _ _ (by omega) h2 h3 (by omega)
   ·rw [if_neg hw]
    have : n ≤ (i + j) / 2 := by
     rcases Nat.lt_or_ge ((i + j) / 2) n with h | h
     ·exact absurd (hp _ h) hw
     ·exact h
    exact ih _ _ h1 this (by omega) (by omega)
  ·rw [if_neg hij]; omega
theorem of_spec (l : List S71) (hl : Pre l) (t : Int) (ht0 : -9223372036854775808 ≤ t) (ht1 : t ≤ 9223372036854775807) : odds_book_of.f l t = some ((look l t).f0, (look l t).f1, (look l t).f2) := by
 unfold odds_book_of.f
 have hlen := sorted_length l hl
 rw [if_pos (by omega)]
 have hk : ∀ i, i < l.length → 1 ≤ (l.getD i z71).f0 ∧ (l.getD i z71).f0 ≤ 14 := by
  intro i hi
  have hm : l.getD i z71 ∈ l := by simp [List.getD_eq_getElem?_getD, List.getElem?_eq_getElem hi]
  have := hl.2 _ hm
  unfold okx at this
  omega
 by_cases hok : bsOk l t = true
 ·rw [if_pos hok]
  have hlt := bsOk_lt hok
  unfold bsOk at hok
  simp only [Bool.and_eq_true, decide_eq_true_eq, beq_iff_eq] at hok
  have hm : l.getD (bsI l t) z71 ∈ l := by simp [List.getD_eq_getElem?_getD, List.getElem?_eq_getElem hlt]
  have he : (l.getD (bsI l t) z71).f0 = t := by
   have h1 := hok.2
   have h2 := hk _ hlt
   unfold wrap64 at h1
   omega
  have := look_of l hl.1 _ hm
  rw [he] at this
  rw [this]
 ·rw [if_neg hok]
  have hno : has l t = false := by
   cases hc : has l t with
   | false => rfl
   | true =>
    exfalso
    obtain ⟨x, hx, hxe⟩ := (has_iff l t).1 hc
    obtain ⟨n, hn, hnx⟩ := List.getElem_of_mem hx
    have hg : ∀ i (hi : i < l.length), l.getD i z71 = l[i] := fun i hi => by simp [List.getD_eq_getElem?_getD, List.getElem?_eq_getElem hi]
    have hpw := List.pairwise_iff_getElem.1 hl.1
    have hr := hk n hn
    rw [hg n hn, hnx, hxe] at hr
    have hbs : bsI l t = n := by
     refine bsl_part l t n (fun i hi => ?_) (fun i hi hil => ?_) (by omega) l.length 0 l.length (by omega) (by omega) (by omega) (by omega)
     ·have h1 := hpw i n (by omega) hn hi
      have h2 := hk i (by omega)
      rw [hg i (by omega)] at h2 ⊢
      rw [hnx, hxe] at h1
      unfold wrap64; omega
     ·have h2 := hk i hil
      rw [hg i hil] at h2 ⊢
      rcases Nat.eq_or_lt_of_le hi with rfl | hlt
      ·rw [hnx, hxe]; unfold wrap64; omega
      ·have h1 := hpw n i hn hil hlt
       rw [hnx, hxe] at h1
       unfold wrap64; omega
    refine hok ?_
    unfold bsOk
    rw [hbs, hg n hn, hnx, hxe]
    simp [hn, wrap64]
  rw [look_not l t hno]
end Go.Proofs.Ytohnkcmbogcfhaa.R
namespace Go.Proofs.Ytohnkcmbogcfhaa.R
open Go.RowKit Go.Proofs.Ytohnkcmbogcfhaa.P Go.Proofs.YtohnkcmbogcfhaaW.PrintWords Go.Proofs.YtohnkcmbogcfhaaW.PrintLast Go.Proofs.YtohnkcmbogcfhaaW.PrintMore
theorem u64_mask (x : Int) (h0 : 0 ≤ x) (h1 : x ≤ 18446744073709551615) : Go.bits .and .u64 x 4294967295 = x % 4294967296 :=
 bits_mask .u64 64 (by decide) (fun n h0 h1 => u64_of h0 (by omega)) 32 (by decide) x h0 (by omega)
theorem mul64 (a b : Nat) (ha : a ≤ 18446744073709551615) (hb : b ≤ 18446744073709551615) : bits_Mul64.f (a : Int) (b : Int) = some (((a * b / 18446744073709551616 : Nat) : Int), ((a * b % 18446744073709551616 : Nat) : Int)) := by
 obtain ⟨x1, hx1⟩ : ∃ x1, x1 = a / 4294967296 := ⟨_, rfl⟩
 obtain ⟨x0, hx0⟩ : ∃ x0, x0 = a % 4294967296 := ⟨_, rfl⟩
 obtain ⟨y1, hy1⟩ : ∃ y1, y1 = b / 4294967296 := ⟨_, rfl⟩
 obtain ⟨y0, hy0⟩ : ∃ y0, y0 = b % 4294967296 := ⟨_, rfl⟩
 have ea : a = x1 * 4294967296 + x0 := by omega
 have eb : b = y1 * 4294967296 + y0 := by omega
 have bx1 : x1 ≤ 4294967295 := by omega
 have bx0 : x0 ≤ 4294967295 := by omega
 have by1 : y1 ≤ 4294967295 := by omega
 have by0 : y0 ≤ 4294967295 := by omega
 have i1 : (a : Int) / 4294967296 = (x1 : Int) := by omega
 have i2 : (b : Int) / 4294967296 = (y1 : Int) := by omega
 have i3 : Go.bits .and .u64 (a : Int) 4294967295 = (x0 : Int) := by rw [u64_mask _ (by omega) (by omega)]; omega
 have i4 : Go.bits .and .u64 (b : Int) 4294967295 = (y0 : Int) := by rw [u64_mask _ (by omega) (by omega)]; omega
 have p11 : x1 * y1 ≤ 4294967295 * 4294967295 := Nat.mul_le_mul bx1 by1
 have p10 : x1 * y0 ≤ 4294967295 * 4294967295 := Nat.mul_le_mul bx1 by0
 have p01 : x0 * y1 ≤ 4294967295 * 4294967295 := Nat.mul_le_mul bx0 by1
 have p00 : x0 * y0 ≤ 4294967295 * 4294967295 := Nat.mul_le_mul bx0 by0
 have eab : a * b = (x1 * y1) * 18446744073709551616 + (x1 * y0 + x0 * y1) * 4294967296 + x0 * y0 := by
  rw [ea, eb]
  grind
 have c11 : (x1 : Int) * (y1 : Int) = ((x1 * y1 : Nat) : Int) := by push_cast; rfl
 have c10 : (x1 : Int) * (y0 : Int) = ((x1 * y0 : Nat) : Int) := by push_cast; rfl
 have c01 : (x0 : Int) * (y1 : Int) = ((x0 * y1 : Nat) : Int) := by push_cast; rfl
 have c00 : (x0 : Int) * (y0 : Int) = ((x0 * y0 : Nat) : Int) := by push_cast; rfl
 have cab : (a : Int) * (b : Int) = ((a * b : Nat) : Int) := by push_cast; rfl
 unfold bits_Mul64.f
 rw [i1, i2, i3, i4, c11, c10, c01, c00, cab]
 generalize x1 * y1 = P11 at *
 generalize x1 * y0 = P10 at *
 generalize x0 * y1 = P01 at *
 generalize x0 * y0 = P00 at *
 generalize a * b = AB at *
 have w00 : IntKind.u64.wrap (P00 : Int) = (P00 : Int) := u64_of (by omega) (by omega)
 have w11 : IntKind.u64.wrap (P11 : Int) = (P11 : Int) := u64_of (by omega) (by omega)
 have w10 : IntKind.u64.wrap (P10 : Int) = (P10 : Int) := u64_of (by omega) (by omega)
 have w01 : IntKind.u64.wrap (P01 : Int) = (P01 : Int) := u64_of (by omega) (by omega)
 rw [w00, w11, w10, w01]
 have wt : IntKind.u64.wrap ((P10 : Int) + (P00 : Int) / 4294967296) = ((P10 + P00 / 4294967296 : Nat) : Int) := by rw [u64_of (by omega) (by omega)]; omega
 rw [wt]
 obtain ⟨T, hT⟩ : ∃ T, T = P10 + P00 / 4294967296 := ⟨_, rfl⟩
 rw [← hT]
 rw [u64_mask (T : Int) (by omega) (by omega)]
 have ww : IntKind.u64.wrap ((T : Int) % 4294967296 + (P01 : Int)) = ((T % 4294967296 + P01 : Nat) : Int) := by rw [u64_of (by omega) (by omega)]; omega
 rw [ww]
 have wh : IntKind.u64.wrap ((P11 : Int) + (T : Int) / 4294967296) = ((P11 + T / 4294967296 : Nat) : Int) := by rw [u64_of (by omega) (by omega)]; omega
 rw [wh, u64_of (by omega) (by omega), u64_def]
 congr 1
 refine Prod.ext ?_ ?_
 ·simp only; omega
 ·simp only; omega
theorem abs_of (a : Int) (h0 : -9223372036854775808 ≤ a) (h1 : a ≤ 9223372036854775807) : rat_abs.f a = some (a.natAbs : Int) := by
 unfold rat_abs.f
 by_cases h : a < 0
 ·rw [if_pos h, u64_def, u64_def]
  congr 1
  omega
 ·rw [if_neg h, u64_of (by omega) (by omega)]
  congr 1
  omega
/-- A number of 128 bits: its upper and its lower half. -/
def hi (m : Nat) : Int := ((m / 18446744073709551616 : Nat) : Int)
def lo (m : Nat) : Int := ((m % 18446744073709551616 : Nat) : Int)
theorem times_of (a b : Int) (ha0 : -9223372036854775808 ≤ a) (ha1 : a ≤ 9223372036854775807) (hb0 : -9223372036854775808 ≤ b) (hb1 : b ≤ 9223372036854775807) :
  rat_times.f a b = some ((decide (a < 0) != decide (b < 0)), hi (a.natAbs * b.natAbs), lo (a.natAbs * b.natAbs)) := by
 unfold rat_times.f
 rw [abs_of a ha0 ha1, abs_of b hb0 hb1]
 simp only [Option.bind_some]
 rw [mul64 _ _ (by omega) (by omega)]
 rfl
theorem atLeast_of (s t : Bool) (m n : Nat) : rat_wide_atLeast.f s (hi m) (lo m) t (hi n) (lo n) = some (decide (n ≤ m)) := by
 unfold rat_wide_atLeast.f hi lo
 by_cases h1 : ((m / 18446744073709551616 : Nat) : Int) > ((n / 18446744073709551616 : Nat) : Int)
 ·rw [if_pos h1, decide_eq_true (by omega)]
 ·rw [if_neg h1]
  by_cases h2 : ((m / 18446744073709551616 : Nat) : Int) = ((n / 18446744073709551616 : Nat) : Int)
  ·rw [if_pos h2]
   congr 1
   rw [decide_eq_decide]
   omega
  ·rw [if_neg h2, decide_eq_false (by omega)]
theorem sub_of (m n : Nat) (hm : m < 340282366920938463463374607431768211456) (h : n ≤ m) :
  ∃ c, bits_Sub64.f (lo m) (lo n) 0 = some (lo (m - n), c) ∧ ∃ c', bits_Sub64.f (hi m) (hi n) c = some (hi (m - n), c') := by
 unfold bits_Sub64.f hi lo
 rw [if_pos (by omega)]
 refine ⟨if ((m % 18446744073709551616 : Nat) : Int) < ((n % 18446744073709551616 : Nat) : Int) + 0 then 1 else 0, ?_, ?_⟩
 ·refine congrArg some (Prod.ext ?_ rfl)
  simp only
  omega
 ·rw [if_pos (by split <;> omega)]
  generalize hc : (if ((m % 18446744073709551616 : Nat) : Int) < ((n % 18446744073709551616 : Nat) : Int) + 0 then (1 : Int) else 0) = c
  refine ⟨if ((m / 18446744073709551616 : Nat) : Int) < ((n / 18446744073709551616 : Nat) : Int) + c then 1 else 0, congrArg some (Prod.ext ?_ rfl)⟩
  simp only
  split at hc <;> omega
theorem plus_of (s t : Bool) (m n : Nat) (hm : m < 170141183460469231731687303715884105728) (hn : n < 170141183460469231731687303715884105728) :
  rat_wide_plus.f s (hi m) (lo m) t (hi n) (lo n) = some (if s = t then (s, hi (m + n), lo (m + n)) else if n ≤ m then (s, hi (m - n), lo (m - n)) else (t, hi (n - m), lo (n - m))) := by
 unfold rat_wide_plus.f
 by_cases hst : s = t
 ·subst hst
  rw [if_pos (by simp), if_pos rfl]
  unfold bits_Add64.f hi lo
  rw [if_pos (by omega)]
  simp only [Option.bind_some]
  rw [if_pos (by omega)]
  simp only [Option.bind_some]
  refine congrArg some (Prod.ext rfl (Prod.ext ?_ ?_))
  ·simp only; omega
  ·simp only; omega
 ·rw [if_neg (by simpa using hst), if_neg hst, atLeast_of]
  simp only [Option.bind_some]
  by_cases hle : n ≤ m
  ·rw [if_pos (by simpa using hle), if_pos hle]
   obtain ⟨c, e1, c', e2⟩ := sub_of m n (by omega) hle
   rw [e1]
   simp only [Option.bind_some]
   rw [e2]
   rfl
  ·rw [if_neg (by simpa using hle), if_neg hle]
   obtain ⟨c, e1, c', e2⟩ := sub_of n m (by omega) (by omega)
   rw [e1]
   simp only [Option.bind_some]
   rw [e2]
   rfl
theorem prod_lt (a b : Nat) (ha : a ≤ 9223372036854775808) (hb : b ≤ 9223372036854775808) : a * b < 170141183460469231731687303715884105728 := by
 have := Nat.mul_le_mul ha hb
 omega
/-- Fractions that are not negative are compared by their cross products. -/
theorem cmp_nat (an ad bn bd : Nat) (h1 : an ≤ 9223372036854775807) (h2 : ad ≤ 9223372036854775807) (h3 : bn ≤ 9223372036854775807) (h4 : bd ≤ 9223372036854775807) :
  rat_Cmp.f (an : Int) (ad : Int) (bn : Int) (bd : Int) = some (if an = bn ∧ ad = bd then 0 else if an * bd < bn * ad then -1 else 1) := by
 unfold rat_Cmp.f
 by_cases he : an = bn ∧ ad = bd
 ·rw [if_pos (by simp; omega), if_pos he]
 ·rw [if_neg (by simp; omega), if_neg he, times_of _ _ (by omega) (by omega) (by omega) (by omega)]
  simp only [Option.bind_some]
  rw [times_of _ _ (by omega) (by omega) (by omega) (by omega)]
  simp only [Option.bind_some, Int.natAbs_natCast]
  have e1 : ∀ x y : Nat, (decide ((x : Int) < 0) != decide ((y : Int) < 0)) = false := by
   intro x y
   rw [decide_eq_false (by omega), decide_eq_false (by omega)]; rfl
  rw [e1, e1, plus_of _ _ _ _ (prod_lt _ _ (by omega) (by omega)) (prod_lt _ _ (by omega) (by omega))]
  simp only [Bool.not_false, Option.bind_some, Bool.false_eq_true, if_false]
  by_cases hlt : an * bd < bn * ad
  ·have h' : ¬ (bn * ad ≤ an * bd) := by omega
   simp only [if_neg h', if_pos hlt, if_true]
  ·have h' : bn * ad ≤ an * bd := by omega
   simp only [if_pos h', if_neg hlt, Bool.false_eq_true, if_false]
theorem valid_of (n d : Nat) (hn : n ≤ 4611686018427387904) (hd0 : 0 < d) (hd : d ≤ 4611686018427387904) : Ev (fun k => rat_Valid.f k (n : Int) (d : Int)) (Nat.gcd n d == 1) := by
 unfold rat_Valid.f
 refine Ev.pos (by omega) (Ev.pos (by omega) (Ev.pos (by omega) (Ev.pos (by omega) (Ev.cbind (abs_of _ (by omega) (by omega)) ?_))))
 rw [u64_of (by omega) (by omega), Int.natAbs_natCast]
 refine Ev.bind (gcd2 n d) (Ev.const ?_)
 congr 1
 rw [Bool.eq_iff_iff]
 simp only [beq_iff_eq]
 omega
end Go.Proofs.Ytohnkcmbogcfhaa.R
namespace Go.Proofs.Ytohnkcmbogcfhaa.R
open Go.RowKit Go.Proofs.Ytohnkcmbogcfhaa.P Go.Proofs.YtohnkcmbogcfhaaW.PrintWords Go.Proofs.YtohnkcmbogcfhaaW.PrintLast Go.Proofs.YtohnkcmbogcfhaaW.PrintMore
/-- What a description's numbers are. -/
def raw (x : S96) : Prop := (0 ≤ x.f0 ∧ x.f0 ≤ 255) ∧ (0 ≤ x.f1 ∧ x.f1 ≤ 255) ∧ (0 ≤ x.f2 ∧ x.f2 ≤ 65535) ∧ 0 ≤ x.f3 ∧ x.f3 ≤ 65535
theorem wf_u8 {n : Int} (h : (Lit.int .u8 n).wf = true) : 0 ≤ n ∧ n ≤ 255 := by
 simp only [Lit.wf, IntKind.min, IntKind.max, IntKind.signed, IntKind.bits, Bool.and_eq_true] at h
 simpa using h
theorem wf_u16 {n : Int} (h : (Lit.int .u16 n).wf = true) : 0 ≤ n ∧ n ≤ 65535 := by
 simp only [Lit.wf, IntKind.min, IntKind.max, IntKind.signed, IntKind.bits, Bool.and_eq_true] at h
 simpa using h
theorem raw_of {x : S96} (h : (Lit.int .u8 x.f0).wf = true ∧ (Lit.int .u8 x.f1).wf = true ∧ (Lit.int .u16 x.f2).wf = true ∧ (Lit.int .u16 x.f3).wf = true) : raw x :=
 ⟨wf_u8 h.1, wf_u8 h.2.1, wf_u16 h.2.2.1, wf_u16 h.2.2.2⟩
def mkB (x : S96) (k : Int) : S71 := ⟨k, if x.f1 % 8 = 7 then 1073741824 - x.f2 % 3 else x.f2, x.f3⟩
def pickB (l : List S96) (k : Int) : List S71 := match l.find? (fun x => 1 + x.f0 % 14 == k) with
 | some x => [mkB x k]
 | none => []
def madeFrom (l : List S96) : Nat → Int → List S71
 | 0, _ => []
 | d + 1, k => pickB l k ++ madeFrom l d (k + 1)
def madeL (l : List S96) : List S71 := madeFrom l 14 1
theorem made_l1 (l : List S96) (hl : l.length < 1000000) (hr : ∀ x ∈ l, raw x) (k : Int) (hk : 1 ≤ k ∧ k ≤ 14) (acc rest : List S71) (ha : acc.length < 1000000)
  (hnext : ∀ acc', acc'.length ≤ acc.length + 1 → Ev (fun n => paroleref37_Made.l0 n l acc' (k + 1)) (acc' ++ rest)) :
  ∀ (d i : Nat), i + d = l.length → Ev (fun n => paroleref37_Made.l1 n l acc k (i : Int)) (acc ++ (pickB (l.drop i) k ++ rest)) := by
 have hk1 : wrap64 (k + 1) = k + 1 := wrap64_of (by omega) (by omega)
 intro d
 induction d with
 | zero =>
  intro i h
  refine Ev.succ ?_
  simp only [paroleref37_Made.l1]
  refine Ev.neg (by omega) ?_
  rw [hk1, List.drop_eq_nil_of_le (by omega)]
  simpa [pickB] using hnext acc (by omega)
 | succ d ih =>
  intro i h
  have hi : i < l.length := by omega
  refine Ev.succ ?_
  simp only [paroleref37_Made.l1]
  have e : l.drop i = l[i] :: l.drop (i + 1) := List.drop_eq_getElem_cons hi
  have er : rd_T96 l (i : Int) = l[i] := by unfold rd_T96; simp [hi]
  have hw : wrap64 ((i : Int) + 1) = ((i + 1 : Nat) : Int) := by rw [wrap64_of (by omega) (by omega)]; omega
  have hx := hr l[i] (List.getElem_mem hi)
  have hih := ih (i + 1) (by omega)
  rw [e, er, hw, hk1]
  generalize l[i] = x at hx ⊢
  unfold raw at hx
  have m1 : x.f0.tmod 14 = x.f0 % 14 := Int.tmod_eq_emod_of_nonneg hx.1.1
  have m2 : x.f1.tmod 8 = x.f1 % 8 := Int.tmod_eq_emod_of_nonneg hx.2.1.1
  have m3 : x.f2.tmod 3 = x.f2 % 3 := Int.tmod_eq_emod_of_nonneg hx.2.2.1.1
  have w1 : wrap64 (1 + wrap64 (x.f0 % 14)) = 1 + x.f0 % 14 := by rw [wrap64_of (n := x.f0 % 14) (by omega) (by omega), wrap64_of (by omega) (by omega)]
  have w3 : wrap64 (1073741824 - wrap64 (x.f2 % 3)) = 1073741824 - x.f2 % 3 := by rw [wrap64_of (n := x.f2 % 3) (by omega) (by omega), wrap64_of (by omega) (by omega)]
  have w4 : wrap64 x.f3 = x.f3 := wrap64_of (by omega) (by omega)
  have w5 : wrap64 x.f2 = x.f2 := wrap64_of (by omega) (by omega)
  rw [m1, m2, m3, w1, w3, w4, w5]
  refine Ev.pos (by omega) (Ev.pos (by omega) ?_)
  by_cases c : 1 + x.f0 % 14 = k
  ·refine Ev.pos c ?_
   have ep : pickB (x :: l.drop (i + 1)) k = [mkB x k] := by simp [pickB, c]
   rw [ep]
   unfold mkB
   have go : ∀ y : S71, Ev (fun n => paroleref37_Made.l0 n l (acc ++ [y]) (k + 1)) (acc ++ ([y] ++ rest)) := by
    intro y
    have := hnext (acc ++ [y]) (by simp)
    simpa using this
   by_cases c8 : x.f1 % 8 = 7
   ·rw [if_pos c8]
    exact Ev.pos c8 (Ev.pos (by omega) (go _))
   ·rw [if_neg c8]
    exact Ev.neg c8 (Ev.pos (by omega) (go _))
  ·refine Ev.neg c ?_
   have ep : pickB (x :: l.drop (i + 1)) k = pickB (l.drop (i + 1)) k := by simp [pickB, c]
   rw [ep]
   exact hih
theorem made_l0 (l : List S96) (hl : l.length < 1000000) (hr : ∀ x ∈ l, raw x) : ∀ (d : Nat) (k : Int) (acc : List S71), k + d = 15 → 1 ≤ k → acc.length + d < 100 → Ev (fun n => paroleref37_Made.l0 n l acc k) (acc ++ madeFrom l d k) := by
 intro d
 induction d with
 | zero =>
  intro k acc h1 h2 h3
  refine Ev.succ ?_
  simp only [paroleref37_Made.l0, madeFrom, List.append_nil]
  exact Ev.neg (by omega) (Ev.now _)
 | succ d ih =>
  intro k acc h1 h2 h3
  refine Ev.succ ?_
  simp only [paroleref37_Made.l0, madeFrom]
  refine Ev.pos (by omega) ?_
  have := made_l1 l hl hr k ⟨h2, by omega⟩ acc (madeFrom l d (k + 1)) (by omega) (fun acc' ha' => ih (k + 1) acc' (by omega) (by omega) (by omega)) l.length 0 (by omega)
  simpa using this
theorem ev_Made (l : List S96) (hl : l.length < 1000000) (hr : ∀ x ∈ l, raw x) : Ev (fun n => paroleref37_Made.f n l) (madeL l) := by
 have := made_l0 l hl hr 14 1 [] (by omega) (by omega) (by simp)
 simpa [paroleref37_Made.f, madeL] using this
theorem pickB_mem (l : List S96) (hr : ∀ x ∈ l, raw x) (k : Int) (y : S71) (hy : y ∈ pickB l k) : y.f0 = k ∧ 0 ≤ y.f1 ∧ 0 ≤ y.f2 ∧ small y := by
 unfold pickB at hy
 split at hy
 ·rename_i x hx
  have hm := hr x (List.mem_of_find?_eq_some hx)
  simp only [List.mem_singleton] at hy
  subst hy
  unfold raw at hm
  unfold mkB small
  refine ⟨rfl, ?_, ?_, ?_, ?_⟩
  ·simp only; split <;> omega
  ·simp only; omega
  ·simp only; split <;> omega
  ·simp only; omega
 ·simp at hy
theorem madeFrom_mem (l : List S96) (hr : ∀ x ∈ l, raw x) : ∀ (d : Nat) (k : Int) (y : S71), y ∈ madeFrom l d k → k ≤ y.f0 ∧ y.f0 < k + d ∧ 0 ≤ y.f1 ∧ 0 ≤ y.f2 ∧ small y := by
 intro d
 induction d with
 | zero => intro k y hy; simp [madeFrom] at hy
 | succ d ih =>
  intro k y hy
  simp only [madeFrom, List.mem_append] at hy
  rcases hy with hy | hy
  ·have := pickB_mem l hr k y hy
   exact ⟨by omega, by omega, this.2.1, this.2.2.1, this.2.2.2⟩
  ·have := ih (k + 1) y hy
   exact ⟨by omega, by omega, this.2.2.1, this.2.2.2.1, this.2.2.2.2⟩
theorem madeFrom_sorted (l : List S96) (hr : ∀ x ∈ l, raw x) : ∀ (d : Nat) (k : Int), Sorted (madeFrom l d k) := by
 intro d
 induction d with
 | zero => intro k; exact List.Pairwise.nil
 | succ d ih =>
  intro k
  unfold Sorted
  simp only [madeFrom]
  rw [List.pairwise_append]
  refine ⟨?_, ih (k + 1), ?_⟩
  ·unfold pickB; split <;> simp
  ·intro a ha b hb
   have h1 := pickB_mem l hr k a ha
   have h2 := madeFrom_mem l hr d (k + 1) b hb
   omega
theorem made_book (l : List S96) (hr : ∀ x ∈ l, raw x) : Book (madeL l) := by
 refine ⟨⟨madeFrom_sorted l hr 14 1, fun x hx => ?_⟩, fun x hx => ?_⟩
 ·have := madeFrom_mem l hr 14 1 x hx
  unfold okx
  omega
 ·exact (madeFrom_mem l hr 14 1 x hx).2.2.2.2
def rn (N D : Nat) : Nat := N / Nat.gcd N D
def rd_ (N D : Nat) : Nat := D / Nat.gcd N D
theorem red_eq (N D : Nat) : N = rn N D * Nat.gcd N D ∧ D = rd_ N D * Nat.gcd N D :=
 ⟨(Nat.div_mul_cancel (Nat.gcd_dvd_left N D)).symm, (Nat.div_mul_cancel (Nat.gcd_dvd_right N D)).symm⟩
theorem red_gcd (N D : Nat) (hD : 0 < D) : Nat.gcd (rn N D) (rd_ N D) = 1 := Nat.coprime_div_gcd_div_gcd (Nat.gcd_pos_of_pos_right N hD)
theorem rn_le (N D : Nat) : rn N D ≤ N := Nat.div_le_self _ _
theorem rd_le (N D : Nat) : rd_ N D ≤ D := Nat.div_le_self _ _
theorem rd_pos (N D : Nat) (hD : 0 < D) : 0 < rd_ N D := Nat.div_pos (Nat.le_of_dvd hD (Nat.gcd_dvd_right N D)) (Nat.gcd_pos_of_pos_right N hD)
theorem rn_pos (N D : Nat) (hN : 0 < N) : 0 < rn N D := Nat.div_pos (Nat.le_of_dvd hN (Nat.gcd_dvd_left N D)) (Nat.gcd_pos_of_pos_left D hN)
/-- Cross products keep their order when fractions are reduced. -/
theorem cross_lt (N1 D1 N2 D2 : Nat) (h1 : 0 < D1) (h2 : 0 < D2) : rn N1 D1 * rd_ N2 D2 < rn N2 D2 * rd_ N1 D1 ↔ N1 * D2 < N2 * D1 := by
 obtain ⟨e1, e2⟩ := red_eq N1 D1
 obtain ⟨e3, e4⟩ := red_eq N2 D2
 have g1 : 0 < Nat.gcd N1 D1 := Nat.gcd_pos_of_pos_right N1 h1
 have g2 : 0 < Nat.gcd N2 D2 := Nat.gcd_pos_of_pos_right N2 h2
 have k1 : N1 * D2 = (rn N1 D1 * rd_ N2 D2) * (Nat.gcd N1 D1 * Nat.gcd N2 D2) := by
  conv => lhs; rw [e1, e4]
  exact Nat.mul_mul_mul_comm _ _ _ _
 have k2 : N2 * D1 = (rn N2 D2 * rd_ N1 D1) * (Nat.gcd N1 D1 * Nat.gcd N2 D2) := by
  conv => lhs; rw [e3, e2]
  rw [Nat.mul_comm (Nat.gcd N1 D1)]
  exact Nat.mul_mul_mul_comm _ _ _ _
 rw [k1, k2]
 exact (Nat.mul_lt_mul_right (Nat.mul_pos g1 g2)).symm
theorem cmp_less (N1 D1 N2 D2 : Nat) (h1 : 0 < D1) (h2 : 0 < D2) (b1 : N1 ≤ 9223372036854775807) (b2 : D1 ≤ 9223372036854775807) (b3 : N2 ≤ 9223372036854775807) (b4 : D2 ≤ 9223372036854775807) (h : N1 * D2 < N2 * D1) :
  rat_Cmp.f (rn N1 D1 : Int) (rd_ N1 D1 : Int) (rn N2 D2 : Int) (rd_ N2 D2 : Int) = some (-1) := by
 have hc := (cross_lt N1 D1 N2 D2 h1 h2).2 h
 rw [cmp_nat _ _ _ _ (Nat.le_trans (rn_le _ _) b1) (Nat.le_trans (rd_le _ _) b2) (Nat.le_trans (rn_le _ _) b3) (Nat.le_trans (rd_le _ _) b4)]
 rw [if_neg (fun he => by rw [he.1, he.2] at hc; exact Nat.lt_irrefl _ hc), if_pos hc]
theorem cmp_more (N1 D1 N2 D2 : Nat) (h1 : 0 < D1) (h2 : 0 < D2) (b1 : N1 ≤ 9223372036854775807) (b2 : D1 ≤ 9223372036854775807) (b3 : N2 ≤ 9223372036854775807) (b4 : D2 ≤ 9223372036854775807) (h : N2 * D1 < N1 * D2) :
  rat_Cmp.f (rn N1 D1 : Int) (rd_ N1 D1 : Int) (rn N2 D2 : Int) (rd_ N2 D2 : Int) = some 1 := by
 have hc := (cross_lt N2 D2 N1 D1 h2 h1).2 h
 rw [cmp_nat _ _ _ _ (Nat.le_trans (rn_le _ _) b1) (Nat.le_trans (rd_le _ _) b2) (Nat.le_trans (rn_le _ _) b3) (Nat.le_trans (rd_le _ _) b4)]
 rw [if_neg (fun he => by rw [he.1, he.2] at hc; exact Nat.lt_irrefl _ hc), if_neg (by omega)]
def cr (l : List S71) (k : Int) : Nat := (look l k).f1.toNat
def cw (l : List S71) (k : Int) : Nat := (look l k).f2.toNat
theorem cr_le (l : List S71) (h : Book l) (k : Int) : cr l k ≤ 1073741824 ∧ cw l k ≤ 1073741824 := by
 have := look_small l h.2 k
 unfold small at this
 unfold cr cw
 omega
theorem of_book (l : List S71) (h : Book l) (k : Int) (hk : -9223372036854775808 ≤ k ∧ k ≤ 9223372036854775807) : odds_book_of.f l k = some (k, (cr l k : Int), (cw l k : Int)) := by
 rw [of_spec l h.1 k hk.1 hk.2, look_f0]
 have := look_nn l h.1.2 k
 unfold cr cw
 rw [Int.toNat_of_nonneg this.1, Int.toNat_of_nonneg this.2]
theorem ev_LossB (l : List S71) (h : Book l) (k : Int) (hk : -9223372036854775808 ≤ k ∧ k ≤ 9223372036854775807) (cost : Nat) (hc : cost ≤ 1073741824) : Ev (fun n => odds_Loss.f n l k (cost : Int)) ((rn ((cr l k + 1) * cost) (cr l k + cw l k + 2) : Int), (rd_ ((cr l k + 1) * cost) (cr l k + cw l k + 2) : Int), 0) := by
 have hb := cr_le l h k
 exact ev_Loss l k k (cr l k) (cw l k) cost (of_book l h k hk) hb.1 hb.2 hc
theorem ev_OfB (l : List S71) (h : Book l) (k : Int) (hk : -9223372036854775808 ≤ k ∧ k ≤ 9223372036854775807) : Ev (fun n => odds_Of.f n l k) ((rn (cr l k + 1) (cr l k + cw l k + 2) : Int), (rd_ (cr l k + 1) (cr l k + cw l k + 2) : Int)) := by
 unfold odds_Of.f
 have := ev_LossB l h k hk 1 (by omega)
 rw [Nat.mul_one] at this
 exact Ev.bind this (Ev.now _)
/-- One answer more. -/
def ans (k : Int) (right : Bool) : S71 := if right then ⟨k, 1, 0⟩ else ⟨k, 0, 1⟩
theorem ans_book (k : Int) (hk : 1 ≤ k ∧ k ≤ 14) (right : Bool) : Book [ans k right] := by
 refine ⟨⟨by simp [Sorted], ?_⟩, ?_⟩ <;> intro x hx <;> simp only [List.mem_singleton] at hx <;> subst hx <;> cases right <;> simp [okx, small, ans] <;> omega
theorem look_ans (k j : Int) (right : Bool) : look [ans k right] j = if k = j then ans k right else ⟨j, 0, 0⟩ := by
 rw [look_cons, look_nil]
 cases right <;> rfl
theorem learnR_of (l : List S71) (k : Int) (hk : 1 ≤ k ∧ k ≤ 14) (right : Bool) : learnR l k right = joinR l [ans k right] := by
 unfold learnR ans
 rw [if_neg (by omega)]
/-- Joined books: a book again, or too great. -/
theorem joinR_cases (a b : List S71) (ha : Book a) (hb : Book b) : (joinR a b = ([], 2) ∧ ¬ Book (joinL a b)) ∨ (joinR a b = (joinL a b, 0) ∧ Book (joinL a b)) := by
 unfold joinR
 cases h : rightB (joinL a b) with
 | true => exact .inr ⟨rfl, (book_iff _).1 h⟩
 | false => exact .inl ⟨rfl, fun hb => by rw [(book_iff _).2 hb] at h; cases h⟩
theorem join_cr (a b : List S71) (ha : Book a) (hb : Book b) (k : Int) : cr (joinL a b) k = cr a k + cr b k ∧ cw (joinL a b) k = cw a k + cw b k := by
 obtain ⟨_, _, h⟩ := join_spec a b ha hb
 have n1 := look_nn a ha.1.2 k
 have n2 := look_nn b hb.1.2 k
 unfold cr cw
 rw [h k]
 simp only
 omega
theorem cr_ans (k j : Int) (right : Bool) : cr [ans k right] j = (if k = j ∧ right = true then 1 else 0) ∧ cw [ans k right] j = (if k = j ∧ right = false then 1 else 0) := by
 unfold cr cw
 rw [look_ans]
 by_cases h : k = j <;> cases right <;> simp [h, ans]
end Go.Proofs.Ytohnkcmbogcfhaa.R
namespace Go.Proofs.Ytohnkcmbogcfhaa.Pure
open Go.RowKit Go.Proofs.Ytohnkcmbogcfhaa.P Go.Proofs.Ytohnkcmbogcfhaa.R Go.Proofs.YtohnkcmbogcfhaaW.PrintWords Go.Proofs.YtohnkcmbogcfhaaW.PrintLast
theorem kind_of (n : Int) (h : 0 ≤ n ∧ n ≤ 255) : wrap64 (1 + (wrap64 (Int.tmod n 14))) = 1 + n % 14 ∧ 1 ≤ 1 + n % 14 ∧ 1 + n % 14 ≤ 14 := by
 have e2 : n.tmod 14 = n % 14 := Int.tmod_eq_emod_of_nonneg h.1
 rw [e2, wrap64_of (n := n % 14) (by omega) (by omega), wrap64_of (by omega) (by omega)]
 omega
theorem book_length (l : List S71) (h : Book l) : l.length ≤ 14 := sorted_length l h.1
theorem ev_learned (l : List S71) (h : Book l) (k : Int) (hk : 1 ≤ k ∧ k ≤ 14) (right : Bool) : Ev (fun n => parolelaw37_learned.f n l k right) (joinR l [ans k right]) := by
 unfold parolelaw37_learned.f
 have := ev_Learn l k right (by have := book_length l h; omega)
 rw [learnR_of l k hk] at this
 exact Ev.bind this (Ev.now _)
theorem ev_RightB (l : List S71) (h : Book l) : Ev (fun n => odds_Right.f n l) 0 := by
 have := ev_Right l (by have := book_length l h; omega)
 rwa [(book_iff l).2 h] at this
theorem OddsBetween : parolelaw37_OddsBetween.Pure := by
 intro l0 a1_0 a1_1 a2 h0 h1
 refine Ev.rounds (g := fun k => parolelaw37_OddsBetween.f k l0 a1_0 a1_1 a2) ?_
 unfold parolelaw37_OddsBetween.f
 refine Ev.cbind rfl (Ev.pos rfl (Ev.ite (fun _ => Ev.now _) (fun hlen => ?_)))
 have hr : ∀ x ∈ l0, raw x := fun x hx => raw_of (h0.2 x hx)
 obtain ⟨e1, k1⟩ := kind_of a1_0 (wf_u8 h1.1)
 obtain ⟨e2, k2⟩ := kind_of a1_1 (wf_u8 h1.2)
 have hB := made_book l0 hr
 refine Ev.bind (ev_Made l0 (by omega) hr) ?_
 rw [e1, e2]
 generalize madeL l0 = l at hB ⊢
 generalize 1 + a1_0 % 14 = k at k1 ⊢
 generalize 1 + a1_1 % 14 = o at k2 ⊢
 have hc := cr_le l hB k
 refine Ev.bind (ev_OfB l hB k (by omega)) ?_
 have gp : 0 < rn (cr l k + 1) (cr l k + cw l k + 2) := rn_pos _ _ (by omega)
 have gq : 0 < rd_ (cr l k + 1) (cr l k + cw l k + 2) := rd_pos _ _ (by omega)
 have gn : rn (cr l k + 1) (cr l k + cw l k + 2) ≤ cr l k + 1 := rn_le _ _
 have gd : rd_ (cr l k + 1) (cr l k + cw l k + 2) ≤ cr l k + cw l k + 2 := rd_le _ _
 have glt : rn (cr l k + 1) (cr l k + cw l k + 2) < rd_ (cr l k + 1) (cr l k + cw l k + 2) := by
  have := (cross_lt (cr l k + 1) (cr l k + cw l k + 2) 1 1 (by omega) (by omega)).2 (by omega)
  have e1 : rn 1 1 = 1 := by decide
  have e2 : rd_ 1 1 = 1 := by decide
  rw [e1, e2] at this
  omega
 have hv := valid_of (rn (cr l k + 1) (cr l k + cw l k + 2)) (rd_ (cr l k + 1) (cr l k + cw l k + 2)) (by omega) gq (by omega)
 rw [red_gcd _ _ (by omega)] at hv
 refine Ev.bind hv (Ev.pos rfl ?_)
 have c0 : rat_Cmp.f (rn (cr l k + 1) (cr l k + cw l k + 2) : Int) (rd_ (cr l k + 1) (cr l k + cw l k + 2) : Int) 0 1 = some 1 := by
  have := cmp_nat (rn (cr l k + 1) (cr l k + cw l k + 2)) (rd_ (cr l k + 1) (cr l k + cw l k + 2)) 0 1 (by omega) (by omega) (by omega) (by omega)
  rw [if_neg (by omega), if_neg (by omega)] at this
  exact this
 have c1 : rat_Cmp.f (rn (cr l k + 1) (cr l k + cw l k + 2) : Int) (rd_ (cr l k + 1) (cr l k + cw l k + 2) : Int) 1 1 = some (-1) := by
  have := cmp_nat (rn (cr l k + 1) (cr l k + cw l k + 2)) (rd_ (cr l k + 1) (cr l k + cw l k + 2)) 1 1 (by omega) (by omega) (by omega) (by omega)
  rw [if_neg (by omega), if_pos (by omega)] at this
  exact this
 refine Ev.cbind c0 (Ev.neg (by omega) (Ev.cbind c1 (Ev.succ ?_)))
 simp only [parolelaw37_OddsBetween.j0]
 refine Ev.neg (by decide) (Ev.bind (ev_learned l hB k k1 a2) ?_)
 have hA := ans_book k k1 a2
 rcases joinR_cases l [ans k a2] hB hA with ⟨e, _⟩ | ⟨e, hJ⟩
 ·rw [e]
  exact Ev.neg (by decide) (Ev.pos rfl (Ev.now _))
 ·rw [e]
  obtain ⟨j1, j2⟩ := join_cr l [ans k a2] hB hA k
  obtain ⟨o1, o2⟩ := join_cr l [ans k a2] hB hA o
  obtain ⟨s1, s2⟩ := cr_ans k k a2
  obtain ⟨t1, t2⟩ := cr_ans k o a2
  have hc' := cr_le (joinL l [ans k a2]) hJ k
  generalize joinL l [ans k a2] = l' at hJ j1 j2 o1 o2 hc' ⊢
  have tail : Ev (fun n => if k = o then ((odds_Right.f n l').bind fun t120 => (if t120 = 0 then (some true) else (some false))) else ((odds_Of.f n l' o).bind fun bt121 => ((odds_Of.f n l o).bind fun bt123 => (if (bt121.1 == bt123.1 && (bt121.2 == bt123.2)) = true then ((odds_Right.f n l').bind fun t125 => (if t125 = 0 then (some true) else (some false))) else (some false))))) true := by
   refine Ev.ite (fun _ => Ev.bind (ev_RightB l' hJ) (Ev.pos rfl (Ev.now _))) (fun hko => ?_)
   simp only [hko, false_and, if_false, Nat.add_zero] at t1 t2
   rw [t1] at o1
   rw [t2] at o2
   refine Ev.bind (ev_OfB l' hJ o (by omega)) (Ev.bind (ev_OfB l hB o (by omega)) ?_)
   rw [o1, o2]
   exact Ev.pos (by simp) (Ev.bind (ev_RightB l' hJ) (Ev.pos rfl (Ev.now _)))
  refine Ev.pos rfl ?_
  cases a2 with
  | true =>
   simp only [and_self, if_true, Bool.true_eq_false, and_false, if_false] at s1 s2
   rw [s1] at j1
   rw [s2] at j2
   refine Ev.pos rfl (Ev.succ ?_)
   simp only [parolelaw37_OddsBetween.j1]
   refine Ev.bind (ev_OfB l' hJ k (by omega)) (Ev.cbind (cmp_more _ _ _ _ (by omega) (by omega) (by omega) (by omega) (by omega) (by omega) ?_) (Ev.pos rfl tail))
   rw [j1, j2]
   simp only [Nat.add_zero]
   generalize cr l k = a
   generalize cw l k = b
   have : (a + 1 + 1) * (a + b + 2) = (a + 1) * (a + 1 + b + 2) + (b + 1) := by grind
   omega
  | false =>
   simp only [and_self, if_true, Bool.false_eq_true, and_false, if_false] at s1 s2
   rw [s1] at j1
   rw [s2] at j2
   refine Ev.neg (by decide) (Ev.succ ?_)
   simp only [parolelaw37_OddsBetween.j1]
   refine Ev.bind (ev_OfB l' hJ k (by omega)) (Ev.cbind (cmp_less _ _ _ _ (by omega) (by omega) (by omega) (by omega) (by omega) (by omega) ?_) (Ev.pos rfl tail))
   rw [j1, j2]
   simp only [Nat.add_zero]
   generalize cr l k = a
   generalize cw l k = b
   have : (a + 1) * (a + (b + 1) + 2) = (a + 1) * (a + b + 2) + (a + 1) := by grind
   omega
end Go.Proofs.Ytohnkcmbogcfhaa.Pure
namespace Go.Proofs.YtohnkcmbogcfhaaH
open Go.RowKit Go.Proofs.YtohnkcmbogcfhaaW.PrintWords
variable {P : Program}
/-- What can be read as_ a value of type t is a value of kind d, and g holds of it. -/
def Opens (P : Program) (t : TypeId) {α : Type} (d : Kd α) (g : α → Prop) : Prop :=
 ∀ {H : Type} (enc : TypeId × Value → H) (W : World) (sp : Nat → Bool) (fuel : Nat) (cs : List Value) (x : DataW H × List MemPlace), DataW.trod enc P W 0 sp true fuel t cs = some x → ∃ y, d.K W y cs ∧ g y
theorem opens_int {t : TypeId} {k : IntKind} (ht : P.underlying t = some (.int k)) : Opens P t (Kd.int k) (fun n => (Lit.int k n).wf = true) := by
 intro H enc W sp fuel cs x h
 obtain ⟨n, rfl, _, hw⟩ := DataW.trod_int ht h
 exact ⟨n, rfl, hw⟩
theorem opens_slice {t e : TypeId} {α : Type} {d : Kd α} {g : α → Prop} (ht : P.underlying t = some (.slice e)) (hd : Opens P e d g) (hs : P.cellsOf e = d.sz) :
  Opens P t (Kd.slice e d) (fun l => l.length ≤ maxLen ∧ ∀ x ∈ l, g x) := by
 intro H enc W sp fuel cs x h
 rcases Deep.open_slice ht h with ⟨rfl, _⟩ | ⟨a, len, cap, m, n, D, Pl, rfl, _, hl, hm, hme, _, hel⟩
 ·refine ⟨[], ⟨none, 0, rfl, Nat.le_refl _, rfl, Nat.zero_le _, fun h => absurd h (Nat.lt_irrefl _)⟩, Nat.zero_le _, by simp⟩
 ·have hlm : len ≤ m := by rw [hme]; split <;> omega
  have h1 : ∀ i, ∃ z : Option α, i < len → ∃ y c, z = some y ∧ W.cells? 0 (a.add (i * P.cellsOf e)) (P.cellsOf e) = some c ∧ d.K W y c ∧ g y := by
   intro i
   by_cases hi : i < len
   ·obtain ⟨c, hc, hx⟩ := hel i (by omega)
    obtain ⟨y, hy, hg⟩ := hd enc W sp n c _ hx
    exact ⟨some y, fun _ => ⟨y, c, rfl, hc, hy, hg⟩⟩
   ·exact ⟨none, fun h => absurd h hi⟩
  obtain ⟨f, hf⟩ := Classical.axiomOfChoice h1
  have h2 : ∀ i, i < len → ∃ y c, f i = some y ∧ W.cells? 0 (a.add (i * P.cellsOf e)) (P.cellsOf e) = some c ∧ d.K W y c ∧ g y := fun i hi => hf i hi
  have key : ∀ k, k ≤ len → ∃ l : List α, l.length = k ∧ ∀ i, i < k → l[i]? = f i := by
   intro k
   induction k with
   | zero => intro _; exact ⟨[], rfl, fun i hi => absurd hi (Nat.not_lt_zero _)⟩
   | succ k ih =>
    intro hk
    obtain ⟨l, hll, hli⟩ := ih (by omega)
    obtain ⟨y, c, hy, _⟩ := h2 k (by omega)
    refine ⟨l ++ [y], by simp [hll], fun i hi => ?_⟩
    by_cases hik : i < k
    ·rw [List.getElem?_append_left (by omega)]; exact hli i hik
    ·have : i = k := by omega
     subst this
     rw [List.getElem?_append_right (by omega), hll]
     simp [hy]
  obtain ⟨l, hll, hli⟩ := key len (Nat.le_refl _)
  refine ⟨l, ⟨some a, cap, by rw [hll], by omega, rfl, ?_, fun _ => ⟨a, rfl, ?_⟩⟩, by omega, ?_⟩
  ·rw [hll]; unfold maxLen at hm; omega
  ·intro j p hj
   have hjl : j < len := by rw [← hll]; exact (List.getElem?_eq_some_iff.1 hj).1
   obtain ⟨y, c, hy, hc, hK, _⟩ := h2 j hjl
   have : p = y := by
    rw [hli j hjl, hy] at hj
    exact (Option.some.inj hj).symm
   subst this
   refine ⟨c, d.K_len hK, hK, fun i u hu => ?_⟩
   obtain ⟨_, hcl, hcc⟩ := World.cells?_some hc
   have hi : i < P.cellsOf e := by rw [← hcl]; exact (List.getElem?_eq_some_iff.1 hu).1
   rw [← hs, ← Deep.add_add, hcc i hi, hu]
  ·intro x hx
   obtain ⟨j, hj⟩ := List.getElem?_of_mem hx
   have hjl : j < len := by rw [← hll]; exact (List.getElem?_eq_some_iff.1 hj).1
   obtain ⟨y, c, hy, hc, hK, hg⟩ := h2 j hjl
   rw [hli j hjl, hy] at hj
   rw [← Option.some.inj hj]
   exact hg
/-- The fields from an offset on. -/
def OpensAt (P : Program) (off : Nat) (fs : List (TypeId × Nat)) {α : Type} (d : Kd α) (g : α → Prop) : Prop :=
 ∀ {H : Type} (enc : TypeId × Value → H) (W : World) (sp : Nat → Bool) (fuel : Nat) (cs : List Value), cs.length = off + d.sz → (∀ f ∈ fs, ∃ x, DataW.trod enc P W 0 sp true fuel f.1 ((cs.drop f.2).take (P.cellsOf f.1)) = some x) → ∃ y, d.K W y (cs.drop off) ∧ g y
theorem opens_last {off : Nat} {t : TypeId} {α : Type} {d : Kd α} {g : α → Prop} (ho : Opens P t d g) (hs : P.cellsOf t = d.sz) : OpensAt P off [(t, off)] d g := by
 intro H enc W sp fuel cs hl hf
 obtain ⟨x, hx⟩ := hf (t, off) (by simp)
 have e : (cs.drop off).take (P.cellsOf t) = cs.drop off := List.take_of_length_le (by rw [List.length_drop, hs]; omega)
 rw [e] at hx
 exact ho enc W sp fuel _ x hx
theorem opens_next {off : Nat} {t : TypeId} {fs : List (TypeId × Nat)} {α β : Type} {d : Kd α} {d' : Kd β} {g : α → Prop} {g' : β → Prop} (ho : Opens P t d g) (hs : P.cellsOf t = d.sz) (hr : OpensAt P (off + d.sz) fs d' g') :
  OpensAt P off ((t, off) :: fs) (Kd.pair d d') (fun x => g x.1 ∧ g' x.2) := by
 intro H enc W sp fuel cs hl hf
 have hl' : cs.length = off + d.sz + d'.sz := by have : (Kd.pair d d').sz = d.sz + d'.sz := rfl; omega
 obtain ⟨x, hx⟩ := hf (t, off) (by simp)
 obtain ⟨y, hy, hg⟩ := ho enc W sp fuel _ x hx
 obtain ⟨y', hy', hg'⟩ := hr enc W sp fuel cs hl' (fun f h => hf f (by simp [h]))
 refine ⟨(y, y'), ⟨_, _, ?_, hy, hy'⟩, hg, hg'⟩
 show cs.drop off = (cs.drop off).take (P.cellsOf t) ++ cs.drop (off + d.sz)
 rw [hs, ← List.drop_drop, List.take_append_drop]
theorem opens_struct {t : TypeId} {fs : Array Field} {α : Type} {d : Kd α} {g : α → Prop} (ht : P.underlying t = some (.struct fs)) (ho : OpensAt P 0 (fs.toList.map fun f => (f.type, f.offset)) d g) (hs : P.cellsOf t = d.sz) : Opens P t d g := by
 intro H enc W sp fuel cs x h
 obtain ⟨xs, n, _, _, hl, hlen, hf⟩ := DataW.trod_struct ht h
 have := ho enc W sp n cs (by omega) (fun f hfm => by
  obtain ⟨f0, hm, rfl⟩ := List.mem_map.1 hfm
  obtain ⟨i, hi⟩ := List.getElem?_of_mem hm
  have hi' : fs[i]? = some f0 := by simpa using hi
  have hlt : i < fs.size := (Array.getElem?_eq_some_iff.1 hi').1
  have := hf i f0 hi'
  rw [List.getElem?_eq_getElem (by omega)] at this
  exact ⟨_, this⟩)
 simpa using this
theorem opens_array {t e : TypeId} {n : Nat} {α : Type} {d : Kd α} {g : α → Prop} (ht : P.underlying t = some (.array n e)) (ho : OpensAt P 0 ((List.range n).map fun i => (e, i * P.cellsOf e)) d g) (hs : P.cellsOf t = d.sz) : Opens P t d g := by
 intro H enc W sp fuel cs x h
 obtain ⟨xs, m, _, _, hl, hlen, hf⟩ := DataW.trod_array ht h
 have := ho enc W sp m cs (by omega) (fun f hfm => by
  obtain ⟨i, hm, rfl⟩ := List.mem_map.1 hfm
  have hlt : i < n := by simpa using hm
  have := hf i hlt
  rw [List.getElem?_eq_getElem (by omega)] at this
  exact ⟨_, this⟩)
 simpa using this
theorem opens_iso {t : TypeId} {α β : Type} {d : Kd α} {g : α → Prop} (f : β → α) (mk : α → β) (hf : ∀ a, f (mk a) = a) (ho : Opens P t d g) : Opens P t (Kd.iso d f) (fun b => g (f b)) := by
 intro H enc W sp fuel cs x h
 obtain ⟨y, hy, hg⟩ := ho enc W sp fuel cs x h
 refine ⟨mk y, ?_, ?_⟩
 ·show d.K W (f (mk y)) cs
  rw [hf]
  exact hy
 ·show g (f (mk y))
  rw [hf]
  exact hg
theorem Opens.imp {t : TypeId} {α : Type} {d : Kd α} {g g' : α → Prop} (ho : Opens P t d g) (h : ∀ a, g a → g' a) : Opens P t d g' := by
 intro H enc W sp fuel cs x hx
 obtain ⟨y, hy, hg⟩ := ho enc W sp fuel cs x hx
 exact ⟨y, hy, h y hg⟩
theorem Opens.at_ {H : Type} {enc : TypeId × Value → H} {W : World} {sp : Nat → Bool} {t : TypeId} {v : Value} {x : DataW H} {ps : List MemPlace} {α : Type} {d : Kd α} {g : α → Prop} (ho : Opens P t d g) (h : DataW.Trod enc P W 0 sp true t v x ps) : ∃ y, d.K W y v.cells.toList ∧ g y := by
 obtain ⟨fuel, hf⟩ := h
 exact ho enc W sp fuel _ _ hf
theorem agg_of_array {r : Reach} {b0 : Nat} {W : World} {t e : TypeId} {n : Nat} {v : Value} (ht : P.underlying t = some (.array n e)) (hv : Value.okWide P W r b0 t v) : ∃ cs, v = .agg cs := by
 simp only [Value.okWide, ht] at hv
 obtain ⟨cs, rfl, _⟩ := hv
 exact ⟨cs, rfl⟩
theorem agg_cells {cs : Array Value} {l : List Value} (h : (Value.agg cs).cells.toList = l) : Value.agg cs = .agg l.toArray := by
 simp only [Value.cells] at h
 rw [← h]
end Go.Proofs.YtohnkcmbogcfhaaH
namespace Go.Proofs.Ytohnkcmbogcfhaa.oddsBetween
open Go.ChangeShapes Go.WideShapes Go.ChangeAt Go.RowKit Go.Proofs.YtohnkcmbogcfhaaH Go.Proofs.Ytohnkcmbogcfhaa.P Go.Proofs.YtohnkcmbogcfhaaW.PrintWords
open Go.ChangeMaps (open_string shut_string)
theorem own : ownKnob Try.prog.godebug = none := by kernel_rfl
theorem laidOut : laidOutB Try.prog = true := by kernel_rfl
set_option maxRecDepth 100000 in
set_option maxHeartbeats 4000000 in
theorem lifted (os : Os) (started : os.Started) (H : Type) (enc : TypeId × Value → H) :
  ReturnsInHanded {} Try.checked os 8 .any (Rows.oddsBetweenSpec.pre6 enc Try.prog Try.f8 Rows.oddsBetweenRow.domain false) (Rows.oddsBetweenSpec.post enc Try.prog Try.f8 false true false false) := by
 refine returnsInHanded_of_change_sized (C := Try.checked) own started (by kernel_rfl) Try.func8
  (ChangeSpec.witness6 (enc := enc) (C := Try.checked) false ⟨#[], #[.slice none 0 0, .agg #[(.int .u8 0), (.int .u8 0)], .bool false], []⟩ 8 (by kernel_rfl) (by kernel_rfl) (by kernel_rfl) (by kernel_rfl)) ?_
 intro W base args ds gs before hval0 hW hcnd hsz0 _
 have hval : ∀ (j : Nat) t v, Try.f8.params[j]? = some t → args[j]? = some v → Value.okWide Try.prog W .any base t v := hval0
 have hW' := hW
 obtain ⟨p, q, hA0, hV, rfl, hfz, hnd⟩ := hW
 have hA : DataW.TrodAll enc Try.prog W 0 (fun _ => true) true Try.f8.params.toList args.toList ds p := hA0
 rw [Try.params8] at hA hval
 obtain ⟨v0, vs0, d0, ds0, p0, q0, hargs, rfl, rfl, h0, r0⟩ := trodAll_cons hA
 obtain ⟨v1, vs1, d1, ds1, p1, q1, rfl, rfl, rfl, h1, r1⟩ := trodAll_cons r0
 obtain ⟨v2, vs2, d2, ds2, p2, q2, rfl, rfl, rfl, h2, r2⟩ := trodAll_cons r1
 obtain ⟨rfl, rfl, rfl⟩ := trodAll_nil r2
 obtain rfl : args = #[v0, v1, v2] := by cases args; simp_all
 obtain ⟨rfl, rfl⟩ := trodVars_none hV
 obtain ⟨a0, n0, c0, rfl⟩ := okWide_slice Try.underlying23 (hval 0 23 v0 rfl rfl)
 have k0 := h0
 have lt0 : ∀ x ∈ p0, x.block < W.heap.size := by obtain ⟨m, hm⟩ := k0; exact DataW.trod_lt m _ _ _ hm
 obtain ⟨y0, K0, g0⟩ := Opens.at_ (opens_slice Try.underlying23 (show Opens Try.prog 96 k96 _ from opens_iso (fun x : S96 => (x.f0, x.f1, x.f2, x.f3)) (fun y => (⟨y.1, y.2.1, y.2.2.1, y.2.2.2⟩ : S96)) (fun _ => rfl) (opens_struct Try.underlying96 (opens_next (opens_int Try.underlying5) (by kernel_rfl) (opens_next (opens_int Try.underlying5) (by kernel_rfl) (opens_next (opens_int Try.underlying43) (by kernel_rfl) (opens_last (opens_int Try.underlying43) (by kernel_rfl))))) (by kernel_rfl))) (by kernel_rfl)) h0
 obtain ⟨A0, C0, e0, l0, rr0⟩ := K0
 obtain ⟨rfl, rfl, rfl⟩ : a0 = A0 ∧ n0 = y0.length ∧ c0 = C0 := by simpa [Value.cells] using e0
 obtain ⟨cs1, rfl⟩ := agg_of_array Try.underlying80 (hval 1 80 v1 rfl rfl)
 have k1 := h1
 have lt1 : ∀ x ∈ p1, x.block < W.heap.size := by obtain ⟨m, hm⟩ := k1; exact DataW.trod_lt m _ _ _ hm
 obtain ⟨y1, K1, g1⟩ := Opens.at_ (show Opens Try.prog 80 k80 _ from opens_iso (fun x : S80 => (x.f0, x.f1)) (fun y => (⟨y.1, y.2⟩ : S80)) (fun _ => rfl) (opens_array Try.underlying80 (opens_next (opens_int Try.underlying5) (by kernel_rfl) (opens_last (opens_int Try.underlying5) (by kernel_rfl))) (by kernel_rfl))) h1
 have e1 := k80_open K1
 obtain rfl := Value.agg.inj (agg_cells e1)
 obtain ⟨a2, rfl, rfl, rfl⟩ := open_bool Try.underlying4 (hval 2 4 v2 rfl rfl) h2
 obtain ⟨k, hk⟩ := Pure.OddsBetween y0 y1.f0 y1.f1 a2 g0 g1
 clear hA0 hval0 hsz0
 refine (parolelaw37_OddsBetween.calls k _ _ y0 y1.f0 y1.f1 a2 true W rr0 l0 rfl hk).mono fun e W' hpost => ?_
 obtain ⟨he, bel0⟩ := hpost
 have bel : Below W.heap.size W W' := bel0
 subst he
 exact ⟨_, rfl, _, _, _, [], _, [], hW', trodAll_mk1 (shut_bool Try.underlying4 _), (trodAll_cons_mk (Below.trod laidOut (by kernel_rfl) (of_decide_eq_true (by kernel_rfl)) k0 bel lt0) (trodAll_cons_mk (Below.trod laidOut (by kernel_rfl) (of_decide_eq_true (by kernel_rfl)) k1 bel lt1) (trodAll_cons_mk (shut_bool Try.underlying4 _) trodAll_mk0))), rfl, bel.frame _, fun h => by cases h⟩
theorem over : Rows.oddsBetweenRow.holds Try.pinned (OpenSpec.ofChange Rows.oddsBetweenSpec) :=
 OpenClaim.holds_of_wide 8 Try.f8 rfl rfl rfl rfl rfl rfl rfl ⟨rfl, rfl, rfl, rfl, rfl⟩ rfl rfl rfl rfl rfl (by kernel_rfl) Try.func8 (by kernel_rfl)
  (of_decide_eq_true (by kernel_rfl)) (by unfold Func.isWrapper; first | (rw [if_pos (by decide +kernel)]; kernel_rfl) | (rw [if_neg (by decide +kernel)]; exact ⟨rfl, rfl⟩))
  (fun os started H enc _ => lifted os started H enc)
theorem proved : Rows.OddsBetweenSaid := over
end Go.Proofs.Ytohnkcmbogcfhaa.oddsBetween
namespace Go.Proofs.Ytohnkcmbogcfhaa
/-- The row, under a short name, for the claim. -/
theorem oddsBetween_holds : Rows.OddsBetweenSaid := oddsBetween.proved
end Go.Proofs.Ytohnkcmbogcfhaa

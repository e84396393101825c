/- A part of the claim OddsLosses: lemmas, printed functions with their contracts, plain laws. -/
import Derived.Test.YtohnkcmbogcfhaacOddsLosses8
set_option linter.unusedVariables false
set_option linter.unusedSimpArgs false
namespace Go.Proofs.Ytohnkcmbogcfhaa.R
open Go.RowKit Go.Proofs.Ytohnkcmbogcfhaa.P Go.Proofs.YtohnkcmbogcfhaaW.PrintWords Go.Proofs.YtohnkcmbogcfhaaW.PrintLast Go.Proofs.YtohnkcmbogcfhaaW.PrintMore
theorem wrap64_of {n : Int} (h0 : -9223372036854775808 ≤ n) (h1 : n ≤ 9223372036854775807) : wrap64 n = n := by
 unfold wrap64
 omega
theorem u64_of {n : Int} (h0 : 0 ≤ n) (h1 : n ≤ 18446744073709551615) : IntKind.u64.wrap n = n := by
 unfold IntKind.wrap
 simp [IntKind.signed, IntKind.bits]
 omega
theorem u64_def (n : Int) : IntKind.u64.wrap n = n % 18446744073709551616 := by
 unfold IntKind.wrap
 simp [IntKind.signed, IntKind.bits]
theorem Ev.ite {α : Type} {c : Prop} [Decidable c] {g f : Nat → Option α} {r : α} (h : c → Ev g r) (k : ¬ c → Ev f r) : Ev (fun n => if c then g n else f n) r := by
 by_cases hc : c
 ·exact Ev.congr (fun _ => if_pos hc) (h hc)
 ·exact Ev.congr (fun _ => if_neg hc) (k hc)
theorem Ev.pos {α : Type} {c : Prop} [Decidable c] {g f : Nat → Option α} {r : α} (hc : c) (h : Ev g r) : Ev (fun n => if c then g n else f n) r := Ev.congr (fun _ => if_pos hc) h
theorem Ev.neg {α : Type} {c : Prop} [Decidable c] {g f : Nat → Option α} {r : α} (hc : ¬ c) (h : Ev f r) : Ev (fun n => if c then g n else f n) r := Ev.congr (fun _ => if_neg hc) h
theorem Ev.succ {α : Type} {g : Nat → Option α} {r : α} (h : Ev (fun k => g (k + 1)) r) : Ev g r := Ev.step (fun _ => rfl) h
theorem Ev.const {α : Type} {o : Option α} {r : α} (h : o = some r) : Ev (fun _ => o) r := ⟨0, fun _ _ => h⟩
theorem Ev.cbind {α β : Type} {o : Option α} {f : Nat → α → Option β} {a : α} {r : β} (h : o = some a) (k : Ev (fun n => f n a) r) : Ev (fun n => o.bind (f n)) r := Ev.bind (Ev.const h) k
theorem gcd_l1 (x10 : List Int) (x11 x12 : Int) : ∀ (b a : Nat) (r : Int), Ev (fun k => rat_gcd.l0 k (Nat.gcd a b : Int) x10 x11 (wrap64 (x12 + 1))) r → Ev (fun k => rat_gcd.l1 k (a : Int) (b : Int) x10 x11 x12) r := by
 intro b
 induction b using Nat.strongRecOn with
 | _ b ih =>
  intro a r h
  refine Ev.succ ?_
  simp only [rat_gcd.l1]
  by_cases hb : b = 0
  ·subst hb
   refine Ev.neg (by simp) ?_
   simpa using h
  ·refine Ev.pos (by omega) (Ev.neg (by omega) ?_)
   have e : Int.tmod (a : Int) (b : Int) = ((a % b : Nat) : Int) := rfl
   rw [e]
   refine ih (a % b) (Nat.mod_lt _ (by omega)) b r ?_
   rw [Nat.gcd_comm, ← Nat.gcd_rec, Nat.gcd_comm]
   exact h
theorem gcd2 (a b : Nat) : Ev (fun k => rat_gcd.f k [(a : Int), (b : Int)]) (Nat.gcd a b : Int) := by
 unfold rat_gcd.f
 refine Ev.pos (by simp) (Ev.pos (by simp) ?_)
 simp only [rd, List.drop, List.getD, List.length]
 refine Ev.succ ?_
 simp only [rat_gcd.l0]
 refine Ev.pos (by simp) (Ev.pos (by simp) (Ev.pos (by simp) ?_))
 refine gcd_l1 _ _ _ b a _ ?_
 refine Ev.succ ?_
 simp only [rat_gcd.l0]
 exact Ev.neg (by rw [wrap64_of (by omega) (by omega)]; simp) (Ev.now _)
theorem number_small (neg : Bool) (lo : Nat) (h : lo ≤ 4611686018427387904) : Ev (fun k => rat_wide_number.f k neg 0 (lo : Int)) (if neg then -(lo : Int) else (lo : Int), true) := by
 unfold rat_wide_number.f
 refine Ev.neg (by omega) (Ev.succ ?_)
 simp only [rat_wide_number.j0]
 refine Ev.neg (by simp; omega) ?_
 rw [wrap64_of (n := (lo : Int)) (by omega) (by omega), wrap64_of (n := -(lo : Int)) (by omega) (by omega)]
 cases neg <;> simp <;> exact Ev.now _
theorem made_small (neg : Bool) (a b : Nat) (ha : a ≤ 4611686018427387904) (hb : b ≤ 4611686018427387904) : Ev (fun k => rat_made.f k neg 0 (a : Int) false 0 (b : Int)) (if neg then -(a : Int) else (a : Int), (b : Int), 0) := by
 unfold rat_made.f
 refine Ev.bind (number_small neg a ha) (Ev.bind (number_small false b hb) ?_)
 exact Ev.pos rfl (Ev.pos rfl (Ev.now _))
/-- New of two numbers that are not negative. -/
theorem new_nat (n d : Nat) (hn : n ≤ 4611686018427387904) (hd : 0 < d) (hd2 : d ≤ 4611686018427387904) : Ev (fun k => rat_New.f k (n : Int) (d : Int)) (((n / Nat.gcd n d : Nat) : Int), ((d / Nat.gcd n d : Nat) : Int), 0) := by
 unfold rat_New.f
 refine Ev.neg (by omega) ?_
 by_cases h0 : n = 0
 ·subst h0
  refine Ev.pos (by simp) ?_
  simp only [rat_zero.f, Option.bind_some, Nat.gcd_zero_left, Nat.zero_div, Nat.div_self hd]
  exact Ev.now _
 ·refine Ev.neg (by omega) ?_
  have ea : ∀ m : Nat, m ≤ 4611686018427387904 → rat_abs.f (m : Int) = some (m : Int) := by
   intro m hm
   unfold rat_abs.f
   rw [if_neg (by omega), u64_of (by omega) (by omega)]
  have hg : 0 < Nat.gcd n d := Nat.gcd_pos_of_pos_right _ hd
  refine Ev.cbind (ea n hn) (Ev.cbind (ea d hd2) (Ev.bind (gcd2 n d) (Ev.cbind (ea n hn) (Ev.neg (by omega) (Ev.cbind (ea d hd2) ?_)))))
  have e1 : ∀ m : Nat, m ≤ 4611686018427387904 → IntKind.u64.wrap (Int.tdiv (m : Int) (Nat.gcd n d : Int)) = ((m / Nat.gcd n d : Nat) : Int) := by
   intro m hm
   have e : Int.tdiv (m : Int) (Nat.gcd n d : Int) = ((m / Nat.gcd n d : Nat) : Int) := rfl
   have h1 := Nat.div_le_self m (Nat.gcd n d)
   rw [e]
   generalize m / Nat.gcd n d = q at h1
   exact u64_of (by omega) (by omega)
  rw [e1 n hn, e1 d hd2]
  have e2 : (decide ((n : Int) < 0) != decide ((d : Int) < 0)) = false := by
   rw [decide_eq_false (by omega), decide_eq_false (by omega)]; rfl
  rw [e2]
  refine Ev.bind (made_small false _ _ (Nat.le_trans (Nat.div_le_self _ _) hn) (Nat.le_trans (Nat.div_le_self _ _) hd2)) ?_
  exact Ev.now _
end Go.Proofs.Ytohnkcmbogcfhaa.R
namespace Go.Proofs.Ytohnkcmbogcfhaa.R
open Go.RowKit Go.Proofs.Ytohnkcmbogcfhaa.P Go.Proofs.YtohnkcmbogcfhaaW.PrintWords Go.Proofs.YtohnkcmbogcfhaaW.PrintLast Go.Proofs.YtohnkcmbogcfhaaW.PrintMore
def mergeL : Nat → List S71 → List S71 → List S71
 | 0, _, _ => []
 | _ + 1, [], [] => []
 | n + 1, x :: a, [] => x :: mergeL n a []
 | n + 1, [], y :: b => y :: mergeL n [] b
 | n + 1, x :: a, y :: b => if x.f0 < y.f0 then x :: mergeL n a (y :: b) else if y.f0 < x.f0 then y :: mergeL n (x :: a) b else ⟨x.f0, wrap64 (x.f1 + y.f1), wrap64 (x.f2 + y.f2)⟩ :: mergeL n a b
theorem rd_cons (x : S71) (a : List S71) : rd_T71 (x :: a) 0 = x := rfl
theorem merge_l0 : ∀ (n : Nat) (a b acc : List S71), a.length + b.length ≤ n → acc.length + n < 5864062014805 → Ev (fun k => api_Answered.l0 k a b acc) (acc ++ mergeL n a b) := by
 intro n
 induction n with
 | zero =>
  intro a b acc h1 h2
  obtain rfl : a = [] := List.length_eq_zero_iff.1 (by omega)
  obtain rfl : b = [] := List.length_eq_zero_iff.1 (by omega)
  refine Ev.succ ?_
  simp only [api_Answered.l0, mergeL, List.append_nil]
  exact Ev.neg (by rw [show wrap64 (((([] : List S71).length : Nat) : Int) + ((([] : List S71).length : Nat) : Int)) = 0 from wrap64_of (by simp) (by simp)]; simp) (Ev.now _)
 | succ n ih =>
  intro a b acc h1 h2
  have hw : wrap64 ((a.length : Int) + (b.length : Int)) = (a.length : Int) + (b.length : Int) := wrap64_of (by omega) (by omega)
  have step : ∀ (a' b' : List S71) (z : S71), a'.length + b'.length ≤ n → Ev (fun k => api_Answered.l0 k a' b' (acc ++ [z])) (acc ++ z :: mergeL n a' b') := by
   intro a' b' z h
   have := ih a' b' (acc ++ [z]) h (by simp; omega)
   simpa using this
  cases a with
  | nil =>
   cases b with
   | nil =>
    refine Ev.succ ?_
    simp only [api_Answered.l0, mergeL, List.append_nil]
    exact Ev.neg (by rw [show wrap64 (((([] : List S71).length : Nat) : Int) + ((([] : List S71).length : Nat) : Int)) = 0 from wrap64_of (by simp) (by simp)]; simp) (Ev.now _)
   | cons y b =>
    simp only [List.length_cons, List.length_nil] at h1 hw
    refine Ev.succ ?_
    simp only [api_Answered.l0, mergeL, rd_cons, odds_Join_2.f, Option.bind_some, List.length_nil, List.length_cons]
    refine Ev.pos (by rw [hw]; omega) (Ev.neg (by omega) (Ev.neg (by simp) (Ev.succ ?_)))
    simp only [api_Answered.j1, rd_cons, List.length_nil, List.length_cons]
    refine Ev.neg (by simp) (Ev.pos (by simp) (Ev.pos (by omega) (Ev.pos (by omega) (Ev.pos (by omega) ?_))))
    exact step [] b y (by simp; omega)
  | cons x a =>
   cases b with
   | nil =>
    simp only [List.length_cons, List.length_nil] at h1 hw
    refine Ev.succ ?_
    simp only [api_Answered.l0, mergeL, rd_cons, odds_Join_2.f, Option.bind_some, List.length_nil, List.length_cons]
    refine Ev.pos (by rw [hw]; omega) (Ev.pos (by simp) (Ev.succ ?_))
    simp only [api_Answered.j1, rd_cons, List.length_nil, List.length_cons]
    refine Ev.pos trivial (Ev.pos (by omega) (Ev.pos (by omega) (Ev.pos (by omega) ?_)))
    exact step a [] x (by simp; omega)
   | cons y b =>
    simp only [List.length_cons] at h1 hw
    refine Ev.succ ?_
    simp only [api_Answered.l0, mergeL, rd_cons, odds_Join_2.f, Option.bind_some, List.length_cons]
    refine Ev.pos (by rw [hw]; omega) (Ev.neg (by omega) (Ev.pos (by omega) (Ev.pos (by omega) (Ev.pos (by omega) (Ev.succ ?_)))))
    simp only [api_Answered.j1, rd_cons, odds_Join_2.f, odds_Join_1.f, Option.bind_some, List.length_cons]
    by_cases hxy : x.f0 < y.f0
    ·rw [if_pos hxy]
     refine Ev.pos (by simpa using hxy) (Ev.pos (by omega) (Ev.pos (by omega) (Ev.pos (by omega) ?_)))
     exact step a (y :: b) x (by simp; omega)
    ·rw [if_neg hxy]
     refine Ev.neg (by simpa using hxy) (Ev.neg (by omega) (Ev.pos (by omega) (Ev.pos (by omega) ?_)))
     by_cases hyx : y.f0 < x.f0
     ·rw [if_pos hyx]
      refine Ev.pos hyx (Ev.pos (by omega) (Ev.pos (by omega) ?_))
      exact step (x :: a) b y (by simp; omega)
     ·rw [if_neg hyx]
      refine Ev.neg hyx (Ev.pos (by omega) (Ev.pos (by omega) (Ev.pos (by omega) ?_)))
      exact step a b _ (by omega)
/-- Which books are right. -/
def okAt (p : Option S71) (x : S71) : Bool := decide (1 ≤ x.f0) && decide (x.f0 ≤ 14) && decide (0 ≤ x.f1) && decide (0 ≤ x.f2) && decide (x.f1 ≤ 1073741824) && decide (x.f2 ≤ 1073741824) && (match p with | none => true | some q => decide (q.f0 < x.f0))
def rightFrom : Option S71 → List S71 → Bool
 | _, [] => true
 | p, x :: l => okAt p x && rightFrom (some x) l
def rightB (l : List S71) : Bool := rightFrom none l
theorem right_l0 (l : List S71) (hl : l.length < 1000000000000) : ∀ (d i : Nat), i + d = l.length → Ev (fun k => odds_Right.l0 k l l (l.length : Int) (i : Int)) (if rightFrom (if i = 0 then none else l[i - 1]?) (l.drop i) then 0 else 1) := by
 intro d
 induction d with
 | zero =>
  intro i h
  refine Ev.succ ?_
  simp only [odds_Right.l0]
  have e : l.drop i = [] := List.drop_eq_nil_of_le (by omega)
  rw [e]
  simp only [rightFrom, if_true]
  exact Ev.neg (by omega) (Ev.now _)
 | succ d ih =>
  intro i h
  have hi : i < l.length := by omega
  refine Ev.succ ?_
  simp only [odds_Right.l0]
  have e : l.drop i = l[i] :: l.drop (i + 1) := List.drop_eq_getElem_cons hi
  have er : rd_T71 l (i : Int) = l[i] := by unfold rd_T71; simp [hi]
  have hw : wrap64 ((i : Int) + 1) = ((i + 1 : Nat) : Int) := by rw [wrap64_of (by omega) (by omega)]; omega
  have hih := ih (i + 1) (by omega)
  rw [e]
  generalize hx : l[i] = x at er ⊢
  have hprev : l[i + 1 - 1]? = some x := by simp [hi, hx]
  rw [hprev] at hih
  simp only [Nat.add_eq_zero_iff, Nat.one_ne_zero, and_false, if_false] at hih
  simp only [er, hw]
  refine Ev.pos (by omega) (Ev.pos (by omega) (Ev.pos (by omega) ?_))
  have bad : ∀ p, okAt p x = false → (if rightFrom p (x :: l.drop (i + 1)) = true then (0 : Int) else 1) = 1 := by
   intro p hp
   simp [rightFrom, hp]
  by_cases c1 : x.f0 < 1
  ·refine Ev.pos c1 ?_
   rw [bad _ (by unfold okAt; simp; omega)]
   exact Ev.now _
  refine Ev.neg c1 ?_
  by_cases c2 : x.f0 > 14
  ·refine Ev.pos c2 ?_
   rw [bad _ (by unfold okAt; simp; omega)]
   exact Ev.now _
  refine Ev.neg c2 ?_
  by_cases c3 : mn x.f1 x.f2 < 0
  ·refine Ev.pos c3 ?_
   rw [bad _ (by unfold okAt; unfold mn at c3; simp; split at c3 <;> omega)]
   exact Ev.now _
  refine Ev.neg c3 ?_
  by_cases c4 : mx x.f1 x.f2 > 1073741824
  ·refine Ev.pos c4 ?_
   rw [bad _ (by unfold okAt; unfold mx at c4; simp; split at c4 <;> omega)]
   exact Ev.now _
  refine Ev.neg c4 ?_
  have hok : okAt none x = true := by
   unfold okAt
   unfold mn at c3
   unfold mx at c4
   simp
   split at c3 <;> split at c4 <;> omega
  by_cases c5 : i = 0
  ·subst c5
   refine Ev.neg (by simp) ?_
   simpa [rightFrom, hok] using hih
  ·refine Ev.pos (by omega) ?_
   have hp : ((i : Int) - 1) = ((i - 1 : Nat) : Int) := by omega
   have hw2 : wrap64 ((i : Int) - 1) = ((i - 1 : Nat) : Int) := by rw [wrap64_of (by omega) (by omega)]; omega
   rw [hw2]
   have hj : i - 1 < l.length := by omega
   have er2 : rd_T71 l ((i - 1 : Nat) : Int) = l[i - 1] := by unfold rd_T71; simp [hj]
   rw [er2]
   refine Ev.pos (by omega) (Ev.pos (by omega) ?_)
   have hq : l[i - 1]? = some l[i - 1] := by simp [hj]
   simp only [c5, if_false]
   rw [hq]
   generalize l[i - 1] = q
   by_cases c6 : q.f0 ≥ x.f0
   ·refine Ev.pos c6 ?_
    rw [bad _ (by unfold okAt; simp; omega)]
    exact Ev.now _
   ·refine Ev.neg c6 ?_
    have hok2 : okAt (some q) x = true := by
     unfold okAt at hok ⊢
     simp at hok ⊢
     omega
    simpa [rightFrom, hok2] using hih
theorem ev_Right (l : List S71) (hl : l.length < 1000000000000) : Ev (fun k => odds_Right.f k l) (if rightB l then 0 else 1) := by
 have := right_l0 l hl l.length 0 (by omega)
 rw [List.drop_zero] at this
 exact this
theorem mergeL_length : ∀ (n : Nat) (a b : List S71), (mergeL n a b).length ≤ n := by
 intro n
 induction n with
 | zero => intro a b; simp [mergeL]
 | succ n ih =>
  intro a b
  cases a <;> cases b <;> simp only [mergeL]
  ·simp
  ·have := ih [] ‹_›; simp; omega
  ·have := ih ‹_› []; simp; omega
  ·split
   ·simp; exact ih _ _
   ·split
    ·simp; exact ih _ _
    ·simp; exact ih _ _
def joinL (a b : List S71) : List S71 := mergeL (a.length + b.length) a b
def joinR (a b : List S71) : List S71 × Int := if rightB (joinL a b) then (joinL a b, 0) else ([], 2)
theorem ev_Join (a b : List S71) (h : a.length + b.length < 1000000000000) : Ev (fun k => odds_Join.f k a b) (joinR a b) := by
 unfold odds_Join.f
 have h1 : Ev (fun k => api_Answered.f k a b) (joinL a b) := by
  have := merge_l0 (a.length + b.length) a b [] (Nat.le_refl _) (by simp; omega)
  simpa [api_Answered.f, joinL] using this
 refine Ev.bind h1 ?_
 have h2 := mergeL_length (a.length + b.length) a b
 refine Ev.bind (ev_Right _ (by unfold joinL; omega)) ?_
 unfold joinR
 cases rightB (joinL a b) <;> simp <;> exact Ev.now _
def learnR (l : List S71) (k : Int) (right : Bool) : List S71 × Int := if k < 1 ∨ 14 < k then ([], 1) else joinR l [if right then ⟨k, 1, 0⟩ else ⟨k, 0, 1⟩]
theorem ev_Learn (l : List S71) (k : Int) (right : Bool) (h : l.length < 100000000000) : Ev (fun n => odds_Learn.f n l k right) (learnR l k right) := by
 unfold odds_Learn.f
 refine Ev.ite (fun c => ?_) (fun c => ?_)
 ·refine Ev.succ ?_
  simp only [odds_Learn.j0]
  unfold learnR
  rw [if_pos (Or.inl c)]
  exact Ev.pos trivial (Ev.now _)
 ·refine Ev.succ ?_
  simp only [odds_Learn.j0]
  unfold learnR
  by_cases c2 : k > 14
  ·rw [if_pos (Or.inr c2)]
   exact Ev.pos (by simpa using c2) (Ev.now _)
  ·rw [if_neg (by omega)]
   refine Ev.neg (by simpa using c2) ?_
   cases right
   ·refine Ev.neg (by simp) ?_
    exact Ev.bind (ev_Join _ _ (by simp; omega)) (Ev.now _)
   ·refine Ev.pos rfl ?_
    exact Ev.bind (ev_Join _ _ (by simp; omega)) (Ev.now _)
/-- The loss of a kind, of which the book has these counts. -/
def lossR (x y cost : Nat) : Int × Int × Int := ((((x + 1) * cost / Nat.gcd ((x + 1) * cost) (x + y + 2) : Nat) : Int), (((x + y + 2) / Nat.gcd ((x + 1) * cost) (x + y + 2) : Nat) : Int), 0)
theorem ev_Loss (l : List S71) (kind q : Int) (x y cost : Nat) (hof : odds_book_of.f l kind = some (q, (x : Int), (y : Int))) (hx : x ≤ 1073741824) (hy : y ≤ 1073741824) (hc : cost ≤ 1073741824) : Ev (fun k => odds_Loss.f k l kind (cost : Int)) (lossR x y cost) := by
 unfold odds_Loss.f
 refine Ev.neg (by omega) (Ev.succ ?_)
 simp only [odds_Loss.j0]
 refine Ev.neg (by simp; omega) (Ev.cbind hof ?_)
 have hm : (x + 1) * cost ≤ 1073741825 * 1073741824 := Nat.mul_le_mul (by omega) hc
 have e1 : wrap64 (wrap64 ((x : Int) + 1) * (cost : Int)) = (((x + 1) * cost : Nat) : Int) := by
  rw [wrap64_of (n := (x : Int) + 1) (by omega) (by omega)]
  have : ((x : Int) + 1) * (cost : Int) = (((x + 1) * cost : Nat) : Int) := by push_cast; rfl
  rw [this, wrap64_of (by omega) (by omega)]
 have e2 : wrap64 (wrap64 ((x : Int) + (y : Int)) + 2) = ((x + y + 2 : Nat) : Int) := by
  rw [wrap64_of (n := (x : Int) + (y : Int)) (by omega) (by omega), wrap64_of (by omega) (by omega)]
  omega
 simp only [e1, e2]
 exact Ev.bind (new_nat _ _ (by omega) (by omega) (by omega)) (Ev.now _)
end Go.Proofs.Ytohnkcmbogcfhaa.R
namespace Go.Proofs.Ytohnkcmbogcfhaa.R
open Go.RowKit Go.Proofs.Ytohnkcmbogcfhaa.P Go.Proofs.YtohnkcmbogcfhaaW.PrintWords Go.Proofs.YtohnkcmbogcfhaaW.PrintLast Go.Proofs.YtohnkcmbogcfhaaW.PrintMore
def Sorted (l : List S71) : Prop := l.Pairwise (fun x y => x.f0 < y.f0)
/-- An element of a book, but for the greatest count. -/
def okx (x : S71) : Prop := 1 ≤ x.f0 ∧ x.f0 ≤ 14 ∧ 0 ≤ x.f1 ∧ 0 ≤ x.f2
def small (x : S71) : Prop := x.f1 ≤ 1073741824 ∧ x.f2 ≤ 1073741824
def Pre (l : List S71) : Prop := Sorted l ∧ ∀ x ∈ l, okx x
theorem okAt_iff (p : Option S71) (x : S71) : okAt p x = true ↔ okx x ∧ small x ∧ ∀ q, p = some q → q.f0 < x.f0 := by
 unfold okAt okx small
 cases p with
 | none => simp; omega
 | some q => simp; omega
theorem rightFrom_iff : ∀ (l : List S71) (p : Option S71), rightFrom p l = true ↔ Sorted l ∧ (∀ x ∈ l, okx x ∧ small x) ∧ ∀ q, p = some q → ∀ x ∈ l, q.f0 < x.f0 := by
 intro l
 induction l with
 | nil => intro p; simp [rightFrom, Sorted]
 | cons x l ih =>
  intro p
  simp only [rightFrom, Bool.and_eq_true, okAt_iff, ih]
  unfold Sorted
  simp only [List.pairwise_cons, List.mem_cons, forall_eq_or_imp]
  constructor
  ·rintro ⟨⟨h1, h2, h3⟩, h4, h5, h6⟩
   exact ⟨⟨fun y hy => h6 x rfl y hy, h4⟩, ⟨⟨h1, h2⟩, h5⟩, fun q hq => ⟨h3 q hq, fun y hy => Int.lt_trans (h3 q hq) (h6 x rfl y hy)⟩⟩
  ·rintro ⟨⟨h1, h2⟩, ⟨⟨h3, h4⟩, h5⟩, h6⟩
   exact ⟨⟨h3, h4, fun q hq => (h6 q hq).1⟩, h2, h5, fun q hq y hy => by cases hq; exact h1 y hy⟩
theorem rightB_iff (l : List S71) : rightB l = true ↔ Pre l ∧ ∀ x ∈ l, small x := by
 unfold rightB Pre
 rw [rightFrom_iff]
 simp only [reduceCtorEq, false_implies, implies_true, and_true]
 constructor
 ·rintro ⟨h1, h2⟩
  exact ⟨⟨h1, fun x hx => (h2 x hx).1⟩, fun x hx => (h2 x hx).2⟩
 ·rintro ⟨⟨h1, h2⟩, h3⟩
  exact ⟨h1, fun x hx => ⟨h2 x hx, h3 x hx⟩⟩
/-- The counts of a kind. -/
def look (l : List S71) (k : Int) : S71 := (l.find? (fun x => x.f0 == k)).getD ⟨k, 0, 0⟩
def has (l : List S71) (k : Int) : Bool := l.any (fun x => x.f0 == k)
theorem look_nil (k : Int) : look [] k = ⟨k, 0, 0⟩ := rfl
theorem look_cons (x : S71) (l : List S71) (k : Int) : look (x :: l) k = if x.f0 = k then x else look l k := by
 unfold look
 by_cases h : x.f0 = k <;> simp [h]
theorem has_cons (x : S71) (l : List S71) (k : Int) : has (x :: l) k = (x.f0 == k || has l k) := by simp [has]
theorem look_f0 (l : List S71) (k : Int) : (look l k).f0 = k := by
 induction l with
 | nil => rfl
 | cons x l ih =>
  rw [look_cons]
  split
  ·assumption
  ·exact ih
theorem look_not (l : List S71) (k : Int) (h : has l k = false) : look l k = ⟨k, 0, 0⟩ := by
 induction l with
 | nil => rfl
 | cons x l ih =>
  rw [has_cons, Bool.or_eq_false_iff] at h
  rw [look_cons, if_neg (by simpa using h.1), ih h.2]
theorem has_iff (l : List S71) (k : Int) : has l k = true ↔ ∃ x ∈ l, x.f0 = k := by simp [has]
theorem look_mem (l : List S71) (k : Int) (h : has l k = true) : look l k ∈ l := by
 induction l with
 | nil => simp [has] at h
 | cons x l ih =>
  rw [look_cons]
  split
  ·simp
  ·rename_i hne
   rw [has_cons] at h
   have : (x.f0 == k) = false := by simpa using hne
   rw [this, Bool.false_or] at h
   exact List.mem_cons_of_mem _ (ih h)
theorem look_of (l : List S71) (hs : Sorted l) (x : S71) (hx : x ∈ l) : look l x.f0 = x := by
 induction l with
 | nil => simp at hx
 | cons y l ih =>
  unfold Sorted at hs ih
  rw [List.pairwise_cons] at hs
  rw [look_cons]
  rcases List.mem_cons.1 hx with rfl | hx
  ·simp
  ·have := hs.1 x hx
   rw [if_neg (by omega)]
   exact ih hs.2 hx
theorem look_nn (l : List S71) (h : ∀ x ∈ l, okx x) (k : Int) : 0 ≤ (look l k).f1 ∧ 0 ≤ (look l k).f2 := by
 cases hk : has l k with
 | true => have := h _ (look_mem l k hk); unfold okx at this; omega
 | false => rw [look_not l k hk]; simp
theorem look_small (l : List S71) (h : ∀ x ∈ l, small x) (k : Int) : small (look l k) := by
 cases hk : has l k with
 | true => exact h _ (look_mem l k hk)
 | false => rw [look_not l k hk]; simp [small]
/-- What joining gives, kind by kind. -/
theorem merge_spec : ∀ (n : Nat) (a b : List S71), a.length + b.length ≤ n → Sorted a → Sorted b → (∀ x ∈ a, okx x ∧ small x) → (∀ x ∈ b, okx x ∧ small x) →
  Pre (mergeL n a b) ∧ (∀ k, has (mergeL n a b) k = (has a k || has b k)) ∧ (∀ k, look (mergeL n a b) k = ⟨k, (look a k).f1 + (look b k).f1, (look a k).f2 + (look b k).f2⟩) := by
 intro n
 induction n with
 | zero =>
  intro a b h ha hb _ _
  obtain rfl : a = [] := List.length_eq_zero_iff.1 (by omega)
  obtain rfl : b = [] := List.length_eq_zero_iff.1 (by omega)
  simp [mergeL, Pre, Sorted, has, look_nil]
 | succ n ih =>
  intro a b h ha hb oa ob
  cases a with
  | nil =>
   cases b with
   | nil => simp [mergeL, Pre, Sorted, has, look_nil]
   | cons y b =>
    unfold Sorted at hb
    rw [List.pairwise_cons] at hb
    obtain ⟨⟨r1, r2⟩, r3, r4⟩ := ih [] b (by simp at h ⊢; omega) ha hb.2 (by simp) (fun x hx => ob x (by simp [hx]))
    simp only [mergeL]
    have hlt : ∀ z ∈ mergeL n [] b, y.f0 < z.f0 := by
     intro z hz
     have : has (mergeL n [] b) z.f0 = true := (has_iff _ _).2 ⟨z, hz, rfl⟩
     rw [r3] at this
     simp [has] at this
     obtain ⟨w, hw, hwe⟩ := this
     have := hb.1 w hw
     omega
    refine ⟨⟨?_, ?_⟩, ?_, ?_⟩
    ·unfold Sorted; rw [List.pairwise_cons]; exact ⟨hlt, r1⟩
    ·intro x hx
     rcases List.mem_cons.1 hx with rfl | hx
     ·exact (ob _ (by simp)).1
     ·exact r2 x hx
    ·intro k; rw [has_cons, has_cons, r3]; simp [has]
    ·intro k
     rw [look_cons, look_cons, r4, look_nil]
     split
     ·rename_i e; subst e; simp
     ·rfl
  | cons x a =>
   unfold Sorted at ha
   rw [List.pairwise_cons] at ha
   cases b with
   | nil =>
    obtain ⟨⟨r1, r2⟩, r3, r4⟩ := ih a [] (by simp at h ⊢; omega) ha.2 hb (fun x hx => oa x (by simp [hx])) (by simp)
    simp only [mergeL]
    have hlt : ∀ z ∈ mergeL n a [], x.f0 < z.f0 := by
     intro z hz
     have : has (mergeL n a []) z.f0 = true := (has_iff _ _).2 ⟨z, hz, rfl⟩
     rw [r3] at this
     simp [has] at this
     obtain ⟨w, hw, hwe⟩ := this
     have := ha.1 w hw
     omega
    refine ⟨⟨?_, ?_⟩, ?_, ?_⟩
    ·unfold Sorted; rw [List.pairwise_cons]; exact ⟨hlt, r1⟩
    ·intro y hy
     rcases List.mem_cons.1 hy with rfl | hy
     ·exact (oa _ (by simp)).1
     ·exact r2 y hy
    ·intro k; rw [has_cons, has_cons, r3, Bool.or_assoc]
    ·intro k
     rw [look_cons, look_cons, r4, look_nil]
     split
     ·rename_i e; subst e; simp
     ·rfl
   | cons y b =>
    have hb' := hb
    unfold Sorted at hb
    rw [List.pairwise_cons] at hb
    simp only [mergeL]
    have oxx := oa x (by simp)
    have oyy := ob y (by simp)
    by_cases hxy : x.f0 < y.f0
    ·rw [if_pos hxy]
     obtain ⟨⟨r1, r2⟩, r3, r4⟩ := ih a (y :: b) (by simp at h ⊢; omega) ha.2 hb' (fun z hz => oa z (by simp [hz])) ob
     have hlt : ∀ z ∈ mergeL n a (y :: b), x.f0 < z.f0 := by
      intro z hz
      have : has (mergeL n a (y :: b)) z.f0 = true := (has_iff _ _).2 ⟨z, hz, rfl⟩
      rw [r3, Bool.or_eq_true] at this
      rcases this with hh | hh
      ·obtain ⟨w, hw, hwe⟩ := (has_iff _ _).1 hh; have := ha.1 w hw; omega
      ·obtain ⟨w, hw, hwe⟩ := (has_iff _ _).1 hh
       rcases List.mem_cons.1 hw with rfl | hw
       ·omega
       ·have := hb.1 w hw; omega
     have nb : ∀ k, x.f0 = k → has (y :: b) k = false := by
      intro k hk
      cases hc : has (y :: b) k with
      | false => rfl
      | true =>
       obtain ⟨w, hw, hwe⟩ := (has_iff _ _).1 hc
       rcases List.mem_cons.1 hw with rfl | hw
       ·omega
       ·have := hb.1 w hw; omega
     refine ⟨⟨?_, ?_⟩, ?_, ?_⟩
     ·unfold Sorted; rw [List.pairwise_cons]; exact ⟨hlt, r1⟩
     ·intro z hz
      rcases List.mem_cons.1 hz with rfl | hz
      ·exact oxx.1
      ·exact r2 z hz
     ·intro k; rw [has_cons, has_cons, r3, Bool.or_assoc]
     ·intro k
      rw [look_cons, look_cons (x := x), r4]
      split
      ·rename_i e
       rw [look_not _ k (nb k e)]; subst e; simp
      ·rfl
    ·rw [if_neg hxy]
     by_cases hyx : y.f0 < x.f0
     ·rw [if_pos hyx]
      have ha' : Sorted (x :: a) := by unfold Sorted; rw [List.pairwise_cons]; exact ha
      obtain ⟨⟨r1, r2⟩, r3, r4⟩ := ih (x :: a) b (by simp at h ⊢; omega) ha' hb.2 oa (fun z hz => ob z (by simp [hz]))
      have hlt : ∀ z ∈ mergeL n (x :: a) b, y.f0 < z.f0 := by
       intro z hz
       have : has (mergeL n (x :: a) b) z.f0 = true := (has_iff _ _).2 ⟨z, hz, rfl⟩
       rw [r3, Bool.or_eq_true] at this
       rcases this with hh | hh
       ·obtain ⟨w, hw, hwe⟩ := (has_iff _ _).1 hh
        rcases List.mem_cons.1 hw with rfl | hw
        ·omega
        ·have := ha.1 w hw; omega
       ·obtain ⟨w, hw, hwe⟩ := (has_iff _ _).1 hh; have := hb.1 w hw; omega
      have na : ∀ k, y.f0 = k → has (x :: a) k = false := by
       intro k hk
       cases hc : has (x :: a) k with
       | false => rfl
       | true =>
        obtain ⟨w, hw, hwe⟩ := (has_iff _ _).1 hc
        rcases List.mem_cons.1 hw with rfl | hw
        ·omega
        ·have := ha.1 w hw; omega
      refine ⟨⟨?_, ?_⟩, ?_, ?_⟩
      ·unfold Sorted; rw [List.pairwise_cons]; exact ⟨hlt, r1⟩
      ·intro z hz
       rcases List.mem_cons.1 hz with rfl | hz
       ·exact oyy.1
       ·exact r2 z hz
      ·intro k; rw [has_cons, r3, has_cons y b, ← Bool.or_assoc, ← Bool.or_assoc, Bool.or_comm (y.f0 == k)]
      ·intro k
       rw [look_cons, look_cons (x := y), r4]
       split
       ·rename_i e
        rw [look_not _ k (na k e)]; subst e; simp
       ·rfl
     ·rw [if_neg hyx]
      obtain ⟨⟨r1, r2⟩, r3, r4⟩ := ih a b (by simp at h ⊢; omega) ha.2 hb.2 (fun z hz => oa z (by simp [hz])) (fun z hz => ob z (by simp [hz]))
      have exy : x.f0 = y.f0 := by omega
      unfold okx small at oxx oyy
      have w1 : wrap64 (x.f1 + y.f1) = x.f1 + y.f1 := wrap64_of (by omega) (by omega)
      have w2 : wrap64 (x.f2 + y.f2) = x.f2 + y.f2 := wrap64_of (by omega) (by omega)
      rw [w1, w2]
      have hlt : ∀ z ∈ mergeL n a b, x.f0 < z.f0 := by
       intro z hz
       have : has (mergeL n a b) z.f0 = true := (has_iff _ _).2 ⟨z, hz, rfl⟩
       rw [r3, Bool.or_eq_true] at this
       rcases this with hh | hh
       ·obtain ⟨w, hw, hwe⟩ := (has_iff _ _).1 hh; have := ha.1 w hw; omega
       ·obtain ⟨w, hw, hwe⟩ := (has_iff _ _).1 hh; have := hb.1 w hw; omega
      refine ⟨⟨?_, ?_⟩, ?_, ?_⟩
      ·unfold Sorted; rw [List.pairwise_cons]; exact ⟨hlt, r1⟩
      ·intro z hz
       rcases List.mem_cons.1 hz with rfl | hz
       ·unfold okx; simp; omega
       ·exact r2 z hz
      ·intro k
       rw [has_cons, r3, has_cons, has_cons, exy]
       cases (y.f0 == k) <;> simp
      ·intro k
       rw [look_cons, look_cons (x := x), look_cons (x := y), r4]
       simp only
       by_cases e : x.f0 = k
       ·rw [if_pos e, if_pos e, if_pos (by omega)]; subst e; rfl
       ·rw [if_neg e, if_neg e, if_neg (by omega)]
def Book (l : List S71) : Prop := Pre l ∧ ∀ x ∈ l, small x
theorem book_iff (l : List S71) : rightB l = true ↔ Book l := rightB_iff l
theorem join_spec (a b : List S71) (ha : Book a) (hb : Book b) :
  Pre (joinL a b) ∧ (∀ k, has (joinL a b) k = (has a k || has b k)) ∧ (∀ k, look (joinL a b) k = ⟨k, (look a k).f1 + (look b k).f1, (look a k).f2 + (look b k).f2⟩) :=
 merge_spec _ a b (Nat.le_refl _) ha.1.1 hb.1.1 (fun x hx => ⟨ha.1.2 x hx, ha.2 x hx⟩) (fun x hx => ⟨hb.1.2 x hx, hb.2 x hx⟩)
theorem sorted_length (l : List S71) (h : Pre l) : l.length ≤ 14 := by
 have key : ∀ (l : List S71) (m : Int), Sorted l → (∀ x ∈ l, m ≤ x.f0 ∧ x.f0 ≤ 14) → m ≤ 15 → (l.length : Int) ≤ 15 - m := by
  intro l
  induction l with
  | nil => intro m _ _ hm; simp; omega
  | cons x l ih =>
   intro m hs hx hm
   unfold Sorted at hs
   rw [List.pairwise_cons] at hs
   have h0 := hx x (by simp)
   have := ih (x.f0 + 1) hs.2 (fun y hy => ⟨by have := hs.1 y hy; omega, (hx y (by simp [hy])).2⟩) (by omega)
   simp only [List.length_cons]
   omega
 have := key l 1 h.1 (fun x hx => by have := h.2 x hx; unfold okx at this; omega) (by omega)
 omega
/-- What the binary search finds. -/
theorem bsl_part (l : List S71) (t : Int) (n : Nat) (hp : ∀ i, i < n → wrap64 ((l.getD i z71).f0 - t) < 0) (hq : ∀ i, n ≤ i → i < l.length → ¬ wrap64 ((l.getD i z71).f0 - t) < 0) (hn : n ≤ l.length) :
  ∀ (m i j : Nat), i ≤ n → n ≤ j → j ≤ l.length → j - i ≤ m → bsl l t m i j = n := by
 intro m
 induction m with
 | zero => intro i j h1 h2 h3 h4; simp [bsl]; omega
 | succ m ih =>
  intro i j h1 h2 h3 h4
  unfold bsl
  by_cases hij : i < j
  ·rw [if_pos hij]
   by_cases hw : wrap64 ((l.getD ((i + j) / 2) z71).f0 - t) < 0
   ·rw [if_pos hw]
    have : (i + j) / 2 < n := by
     rcases Nat.lt_or_ge ((i + j) / 2) n with h | h
     ·exact h
     ·exact absurd hw (hq _ h (by omega))
    exact ih _ _ (by omega) h2 h3 (by omega)
   ·rw [if_neg hw]
    have : n ≤ (i + j) / 2 := by
     rcases Nat.lt_or_ge ((i + j) / 2) n with h | h
     ·exact absurd (hp _ h) hw
     ·exact h
    exact ih _ _ h1 this (by omega) (by omega)
  ·rw [if_neg hij]; omega
theorem of_spec (l : List S71) (hl : Pre l) (t : Int) (ht0 : -9223372036854775808 ≤ t) (ht1 : t ≤ 9223372036854775807) : odds_book_of.f l t = some ((look l t).f0, (look l t).f1, (look l t).f2) := by
 unfold odds_book_of.f
 have hlen := sorted_length l hl
 rw [if_pos (by omega)]
 have hk : ∀ i, i < l.length → 1 ≤ (l.getD i z71).f0 ∧ (l.getD i z71).f0 ≤ 14 := by
  intro i hi
  have hm : l.getD i z71 ∈ l := by simp [List.getD_eq_getElem?_getD, List.getElem?_eq_getElem hi]
  have := hl.2 _ hm
  unfold okx at this
  omega
 by_cases hok : bsOk l t = true
 ·rw [if_pos hok]
  have hlt := bsOk_lt hok
  unfold bsOk at hok
  simp only [Bool.and_eq_true, decide_eq_true_eq, beq_iff_eq] at hok
  have hm : l.getD (bsI l t) z71 ∈ l := by simp [List.getD_eq_getElem?_getD, List.getElem?_eq_getElem hlt]
  have he : (l.getD (bsI l t) z71).f0 = t := by
   have h1 := hok.2
   have h2 := hk _ hlt
   unfold wrap64 at h1
   omega
  have := look_of l hl.1 _ hm
  rw [he] at this
  rw [this]
 ·rw [if_neg hok]
  have hno : has l t = false := by
   cases hc : has l t with
   | false => rfl
   | true =>
    exfalso
    obtain ⟨x, hx, hxe⟩ := (has_iff l t).1 hc
    obtain ⟨n, hn, hnx⟩ := List.getElem_of_mem hx
    have hg : ∀ i (hi : i < l.length), l.getD i z71 = l[i] := fun i hi => by simp [List.getD_eq_getElem?_getD, List.getElem?_eq_getElem hi]
    have hpw := List.pairwise_iff_getElem.1 hl.1
    have hr := hk n hn
    rw [hg n hn, hnx, hxe] at hr
    have hbs : bsI l t = n := by
     refine bsl_part l t n (fun i hi => ?_) (fun i hi hil => ?_) (by omega) l.length 0 l.length (by omega) (by omega) (by omega) (by omega)
     ·have h1 := hpw i n (by omega) hn hi
      have h2 := hk i (by omega)
      rw [hg i (by omega)] at h2 ⊢
      rw [hnx, hxe] at h1
      unfold wrap64; omega
     ·have h2 := hk i hil
      rw [hg i hil] at h2 ⊢
      rcases Nat.eq_or_lt_of_le hi with rfl | hlt
      ·rw [hnx, hxe]; unfold wrap64; omega
      ·have h1 := hpw n i hn hil hlt
       rw [hnx, hxe] at h1
       unfold wrap64; omega
    refine hok ?_
    unfold bsOk
    rw [hbs, hg n hn, hnx, hxe]
    simp [hn, wrap64]
  rw [look_not l t hno]
end Go.Proofs.Ytohnkcmbogcfhaa.R
namespace Go.Proofs.Ytohnkcmbogcfhaa.P
open Go.Proofs.YtohnkcmbogcfhaaH Go.RowKit Go.Proofs.YtohnkcmbogcfhaaW.PrintWords Go.Proofs.YtohnkcmbogcfhaaW.PrintLast Go.Proofs.YtohnkcmbogcfhaaW.PrintMore
attribute [local go_sem] max2_int min2_int max_two min_two max_three min_three max_four min_four   -- for this text's walks alone
def rat_Valid.f (k : Nat) (a0_0 : Int) (a0_1 : Int) : Option (Bool) := if a0_1 ≥ 1 then (if a0_1 ≤ 4611686018427387904 then (if a0_0 ≥ (-4611686018427387904) then (if a0_0 ≤ 4611686018427387904 then ((rat_abs.f a0_0).bind fun t102 => ((rat_gcd.f k (([t102, IntKind.u64.wrap (a0_1)] : List Int))).bind fun t106 => (some (t106 == 1)))) else (some false)) else (some false)) else (some false)) else (some false)
theorem rat_Valid.mono : ∀ a0 a1 k, LeO (rat_Valid.f k a0 a1) (rat_Valid.f (k + 1) a0 a1) := by
 intro a0 a1 k
 unfold rat_Valid.f
 repeat' first
   | (with_reducible exact rat_gcd.mono _ _)
   | (with_reducible exact LeO.refl _)
   | (with_reducible exact LeO.none _)
   | (with_reducible refine LeO.ite ?_ ?_)
   | (with_reducible refine LeO.bind ?_ (fun _ => ?_))
   | exact rat_gcd.mono _ _
   | exact LeO.none _
   | refine LeO.ite ?_ ?_
   | refine LeO.bind ?_ (fun _ => ?_)
def rat_Valid.T1 : Bool × List (List Nat × List Nat) := (true, [([], []), ([0], [0]), ([1], [1]), ([2], [2]), ([3], [3]), ([4, 3], [3, 4]), ([5, 3], [3, 5]), ([3, 6], [3, 6]), ([7, 3], [7]), ([8], [8]), ([9, 8], [8, 9]), ([10, 8], [8, 10]), ([8, 11], [8, 11]), ([12, 8], [12]), ([13], [13]), ([14, 13], [13, 14]), ([15, 13], [13, 15]), ([13, 16], [13, 16]), ([17, 13], [17]), ([18], [18]), ([19, 18], [18, 19]), ([20, 18, 18], [18, 20]), ([18], [18]), ([22, 18], [18, 22]), ([23, 18], [18, 23]), ([21, 24, 18], [18, 21, 24]), ([25, 21, 18], [18, 25]), ([26, 18], [18, 26]), ([18, 27], [18, 27]), ([28, 26, 0, 1, 2, 3, 4, 5, 6, 7, 8, 9, 10, 11, 12, 13, 14, 15, 16, 17, 18, 19, 20, 21, 22, 23, 24, 25, 26, 27, 28], [28])])
def rat_Valid.B1 : List Nat := [0, 1, 3, 7, 15, 31, 63, 127, 255, 511, 1023, 2047, 4095, 8191, 16383, 32767, 65535, 131071, 262143, 524287, 1048575, 2097151, 524287, 4718591, 13107199, 33554431, 67108863, 134217727, 268435455, 536870911]
theorem rat_Valid.tab1 : rtab .any (opsOf Try.f46 1) = rat_Valid.T1 := by kernel_rfl
theorem rat_Valid.bits1 : waitsOk rat_Valid.T1.2 rat_Valid.B1 = true := by kernel_rfl
set_option maxHeartbeats 8000000 in
set_option maxRecDepth 100000 in
theorem rat_Valid.calls (k : Nat) (a0_0 : Int) (a0_1 : Int) (r : Bool) (w : World) (h : rat_Valid.f k a0_0 a0_1 = some r) :
  Calls Try.prog 46 #[.agg #[.int .i64 a0_0, .int .i64 a0_1]] w fun e w' => e = .returned (.bool r) ∧ Below w.heap.size w w' := by
 have hu35 := Try.underlying35
 have HB := Aside0.mk (Below.refl w.heap.size w)
 have H : (if a0_1 ≥ 1 then (if a0_1 ≤ 4611686018427387904 then (if a0_0 ≥ (-4611686018427387904) then (if a0_0 ≤ 4611686018427387904 then ((rat_abs.f a0_0).bind fun t102 => ((rat_gcd.f k (([t102, IntKind.u64.wrap (a0_1)] : List Int))).bind fun t106 => (some (t106 == 1)))) else (some false)) else (some false)) else (some false)) else (some false)) = some r := h
 clear h
 by_cases c2 : a0_1 ≥ 1
 ·rw [if_pos c2] at H
  have c2b0 : decide (1 ≤ a0_1) = true := decide_eq_true c2
  clear c2
  by_cases c3 : a0_1 ≤ 4611686018427387904
  ·rw [if_pos c3] at H
   have c3b0 : decide (a0_1 ≤ 4611686018427387904) = true := decide_eq_true c3
   clear c3
   by_cases c4 : a0_0 ≥ (-4611686018427387904)
   ·rw [if_pos c4] at H
    have c4b0 : decide ((-4611686018427387904) ≤ a0_0) = true := decide_eq_true c4
    clear c4
    by_cases c5 : a0_0 ≤ 4611686018427387904
    ·rw [if_pos c5] at H
     have c5b0 : decide (a0_0 ≤ 4611686018427387904) = true := decide_eq_true c5
     clear c5
     replace H := Option.bind_eq_some_iff.mp H
     obtain ⟨t102, A60, H⟩ := H
     replace H : ((rat_gcd.f k (([t102, IntKind.u64.wrap (a0_1)] : List Int))).bind fun t106 => (some (t106 == 1))) = some r := H
     have A6 := Aside0.mk A60
     clear A60
     obtain ⟨y103, hy103⟩ : ∃ y_ : List Int, y_ = (([t102, IntKind.u64.wrap (a0_1)] : List Int)) := ⟨_, rfl⟩
     replace H : ((rat_gcd.f k y103).bind fun t106 => (some (t106 == 1))) = some r := by first | (rw [hy103]; with_reducible exact H) | (have H2_ := (Option.bind_some _ _).symm.trans H; rw [hy103]; with_reducible exact H2_) | (have H2_ := (Option.bind_some _ _).symm.trans H; with_reducible exact H2_) | with_reducible exact H | (rw [hy103]; exact H) | exact H
     have Ny103 := Aside0.mk hy103
     clear hy103
     replace H := Option.bind_eq_some_iff.mp H
     obtain ⟨t106, A70, H⟩ := H
     replace H : (some (t106 == 1)) = some r := H
     have A7 := Aside0.mk A70
     clear A70
     obtain rfl := Option.some.inj H
     go_enter Try.func46, Try.ntmps46
     try go_wp2_with (first | ((with_reducible refine gate_dst (N := 1) rfl ?_); (try (refine gate_guard (by rfl) ?_; dsimp only)); refine box_event ?hg (N := 1) ?hd (cs := #[.int .i64 a0_0, .int .i64 a0_1]) (t := 35) ?hr ?_; (case hd => rfl); (case hg => rfl); (case hr => first | (go_simp; done) | (go_simp; rfl)); intro gb101 hg w8 hbox hb; have n0_ := Aside0.mk (below_step (by repeat (first | (with_reducible first | exact HB.out | apply below_alloc | apply pw_below_drewN | apply below_drew1) | exact HB.out)) hb); have n1_ := Aside0.mk (hbox); have n2_ := Aside0.mk ((by rw [hg]; exact (below_size (by repeat (first | (with_reducible first | exact HB.out | apply below_alloc | apply pw_below_drewN | apply below_drew1) | exact HB.out))) : w.heap.size ≤ gb101)); have n3_ := Aside0.mk ((by rw [hg]; exact (below_size (by repeat (first | (with_reducible first | exact HB.out | apply below_alloc | apply pw_below_drewN | apply below_drew1) | exact HB.out))) : w.heap.size ≤ gb101)); clear HB; have HB := n0_; have BK101 := n1_; have GW101 := n2_; have GE101 := n3_; clear n0_ n1_ n2_ n3_; clear hb hbox hg))
     have n0_ := Aside0.mk (blk_drew BK101.out)
     have n1_ := Aside0.mk (below_drew1 HB.out)
     clear BK101 HB; have BK101 := n0_; have HB := n1_; clear n0_ n1_
     refine start_ (n := 30) (S := fun w' => w'.cell? ⟨gb101, 0, none⟩ = some (.int .i64 a0_0) ∧ w'.cell? ⟨gb101, 1, none⟩ = some (.int .i64 a0_1)) (ds := []) #[false, false, false, false, false, false, false, false, false, false, false, false, false, false, false, false, false, false, false, false, false, false, false, false, false, false, false, false, false, false] (by kernel_rfl) rfl rfl ⟨(blk_cell BK101.out 0).trans rfl, (blk_cell BK101.out 1).trans rfl⟩ (fun hHeld => ?_); refine with_tabW rat_Valid.tab1 rat_Valid.bits1 (fun HT_ HW_ => ?_)
     generalize w8.drew = w9 at BK101 HB hHeld ⊢
     refine pX (i := 0) (N := some 3) rfl rfl HT_ ?_
     refine tX (i := 1) (N := some 4) rfl rfl HT_ HW_ hHeld (Or.inl ⟨by rfl, by rintro w' ⟨s0, s1⟩; go_simp; with_reducible rfl⟩) ?_
     refine pX (i := 2) (N := some 5) rfl rfl HT_ ?_
     refine pX (i := 3) (N := some 6) rfl rfl HT_ ?_
     refine pX (i := 4) (N := some 7) rfl rfl HT_ ?_
     refine tX (i := 5) (N := some 8) rfl rfl HT_ HW_ hHeld (Or.inl ⟨by rfl, by rintro w' ⟨s0, s1⟩; go_simp; with_reducible rfl⟩) ?_
     refine pX (i := 6) (N := some 9) rfl rfl HT_ ?_
     refine pX (i := 7) (N := some 10) rfl rfl HT_ ?_
     refine pX (i := 8) (N := some 11) rfl rfl HT_ ?_
     refine pX (i := 9) (N := some 12) rfl rfl HT_ ?_
     refine tX (i := 10) (N := some 13) rfl rfl HT_ HW_ hHeld (Or.inl ⟨by rfl, by rintro w' ⟨s0, s1⟩; go_simp; with_reducible rfl⟩) ?_
     refine pX (i := 11) (N := some 14) rfl rfl HT_ ?_
     refine pX (i := 12) (N := some 15) rfl rfl HT_ ?_
     refine pX (i := 13) (N := some 16) rfl rfl HT_ ?_
     refine pX (i := 14) (N := some 17) rfl rfl HT_ ?_
     refine tX (i := 15) (N := some 18) rfl rfl HT_ HW_ hHeld (Or.inl ⟨by rfl, by rintro w' ⟨s0, s1⟩; go_simp; with_reducible rfl⟩) ?_
     refine pX (i := 16) (N := some 19) rfl rfl HT_ ?_
     refine pX (i := 17) (N := some 20) rfl rfl HT_ ?_
     refine pX (i := 18) (N := some 21) rfl rfl HT_ ?_
     refine pX (i := 19) (N := some 22) rfl rfl HT_ ?_
     refine pX (i := 22) (N := some 25) rfl rfl HT_ ?_
     refine tX (i := 20) (N := some 23) rfl rfl HT_ HW_ hHeld (Or.inl ⟨by rfl, by rintro w' ⟨s0, s1⟩; go_simp; with_reducible rfl⟩) ?_
     refine tX (i := 23) (N := some 26) rfl rfl HT_ HW_ hHeld (Or.inl ⟨by rfl, by rintro w' ⟨s0, s1⟩; go_simp; with_reducible rfl⟩) ?_
     refine pX (i := 24) (N := some 27) rfl rfl HT_ ?_
     refine oX (i := 21) (N := some 24) rfl rfl HT_ (fun K hK => ?_)
     refine goes_ Try.func72 (by kernel_rfl) rfl #[.int .i64 a0_0] (by rfl) rfl rfl (by (try simp only [List.map_toArray, List.map_cons, List.map_nil]); first | done | rfl | (simp only [List.length_drop, List.length_take]; rfl)) ?_
     with_reducible refine (rat_abs.calls a0_0 t102 _ A6.out).mono ?_
     rintro e w' ⟨rfl, ⟨nd, rfl⟩⟩
     refine ⟨_, rfl, ?_⟩
     refine hK.out _ _ ⟨(blk_cell BK101.out 0).trans rfl, (blk_cell BK101.out 1).trans rfl⟩ (fun hHeld => ?_)
     clear hK K
     refine nX (some 24) ?_
     refine oX (i := 25) (N := some 28) rfl rfl HT_ (fun K hK => ?_)
     refine Kd.R_lit_step (Kd.int .u64) _ 119 ?hg (N := 28) ?hd (xs := ([t102, IntKind.u64.wrap (a0_1)] : List Int)) (inner := [.int .u64 t102, .int .u64 (IntKind.u64.wrap (a0_1))]) (ok := fun _ => True) (okp := fun _ => True) ?hr ?hp (fun _ hk => hk) trivial (Below.refl _ _) (Nat.le_refl _) (by simp) ?_; (case hd => rfl); (case hg => rfl); (case hr => first | (go_simp; done) | (go_simp; rfl)); (case hp => exact (Reps.one (show Kd.M (Kd.int .u64) _ _ _ t102 [.int .u64 t102] from rfl) (Reps.one (show Kd.M (Kd.int .u64) _ _ _ (IntKind.u64.wrap (a0_1)) [.int .u64 (IntKind.u64.wrap (a0_1))] from rfl) (Reps.none _ _))))
     intro v104 w10 ho11 hb hg_ hnew_
     clear hg_ hnew_
     (first | rw [← Ny103.out] at ho11 | (simp only [Int.reduceToNat] at ho11; rw [← Ny103.out] at ho11))
     have n0_ := Aside0.mk (Kd.R_lower ho11 (below_size (by repeat (first | (with_reducible first | exact HB.out | apply below_alloc | apply pw_below_drewN | apply below_drew1 | refine below_set ?_ GE101.out) | exact HB.out))))
     have n1_ := Aside0.mk (blk_below (g := gb101) (o := .cells #[.int .i64 a0_0, .int .i64 a0_1] 35 (0, 0)) (by (with_reducible repeat (first | refine blk_drewN ?_ _ | refine blk_drew ?_ | refine blk_alloc ?_ _)); exact BK101.out) hb)
     have n2_ := Aside0.mk (below_step (by repeat (first | (with_reducible first | exact HB.out | apply below_alloc | apply pw_below_drewN | apply below_drew1 | refine below_set ?_ GE101.out) | exact HB.out)) hb)
     clear BK101 HB; have HO105 := n0_; have BK101 := n1_; have HB := n2_; clear n0_ n1_ n2_ hb ho11
     obtain ⟨Ao12, co12, eo12⟩ := Kd.R_slice HO105.out
     (first | subst eo12 | (injection eo12 with f1_ f2_ f3_; have f4_ := f1_.symm; have f5_ := f3_.symm; clear f1_ f2_ f3_; subst f4_; subst f5_))
     refine hK.out _ _ ⟨(blk_cell BK101.out 0).trans rfl, (blk_cell BK101.out 1).trans rfl⟩ (fun hHeld => ?_)
     clear hK K
     refine nX (some 28) ?_
     refine oX (i := 26) (N := some 29) rfl rfl HT_ (fun K hK => ?_)
     refine goes_ Try.func71 (by kernel_rfl) rfl #[.slice Ao12 y103.length co12] (by rfl) rfl rfl (by (try simp only [List.map_toArray, List.map_cons, List.map_nil]); first | done | rfl | (simp only [List.length_drop, List.length_take]; rfl)) ?_
     with_reducible refine (rat_gcd.calls k _ _ y103 t106 _ ?side1 ?side2 A7.out).mono ?_
     (case side1 => repeat (first | exact (Kd.R_reads' HO105.out).2.2 | (with_reducible refine Kd.C_alloc ?_ _) | (with_reducible refine Kd.C_drewN ?_ _) | (with_reducible refine Kd.C_drew ?_)))
     (case side2 => exact (Kd.R_reads' HO105.out).2.1)
     rintro e w' ⟨rfl, ⟨nd, rfl⟩⟩
     refine ⟨_, rfl, ?_⟩
     refine hK.out _ _ ⟨(blk_cell BK101.out 0).trans rfl, (blk_cell BK101.out 1).trans rfl⟩ (fun hHeld => ?_)
     clear hK K
     refine nX (some 29) ?_
     refine pX (i := 27) (N := some 30) rfl rfl HT_ ?_
     refine pX (i := 28) (N := some 31) rfl rfl HT_ ?_
     refine pX (i := 29) (N := some 2) rfl rfl HT_ ?_
     refine done_ (done_of HT_.out (by kernel_rfl)) ?_
     try go_wp2
     go_ret
     exact ⟨by first | rfl | (simp [errW_none, errW_some] <;> rfl) | (simp [*, errW_none, errW_some] <;> rfl), by repeat (first | (with_reducible first | exact HB.out | apply below_alloc | apply pw_below_drewN | apply below_drew1 | refine below_set ?_ GE101.out) | exact HB.out)⟩
    ·rw [if_neg c5] at H
     have c5b0 : decide (a0_0 ≤ 4611686018427387904) = false := decide_eq_false c5
     clear c5
     obtain rfl := Option.some.inj H
     go_enter Try.func46, Try.ntmps46
     try go_wp2_with (first | ((with_reducible refine gate_dst (N := 1) rfl ?_); (try (refine gate_guard (by rfl) ?_; dsimp only)); refine box_event ?hg (N := 1) ?hd (cs := #[.int .i64 a0_0, .int .i64 a0_1]) (t := 35) ?hr ?_; (case hd => rfl); (case hg => rfl); (case hr => first | (go_simp; done) | (go_simp; rfl)); intro gb101 hg w13 hbox hb; have n0_ := Aside0.mk (below_step (by repeat (first | (with_reducible first | exact HB.out | apply below_alloc | apply pw_below_drewN | apply below_drew1) | exact HB.out)) hb); have n1_ := Aside0.mk (hbox); have n2_ := Aside0.mk ((by rw [hg]; exact (below_size (by repeat (first | (with_reducible first | exact HB.out | apply below_alloc | apply pw_below_drewN | apply below_drew1) | exact HB.out))) : w.heap.size ≤ gb101)); have n3_ := Aside0.mk ((by rw [hg]; exact (below_size (by repeat (first | (with_reducible first | exact HB.out | apply below_alloc | apply pw_below_drewN | apply below_drew1) | exact HB.out))) : w.heap.size ≤ gb101)); clear HB; have HB := n0_; have BK101 := n1_; have GW101 := n2_; have GE101 := n3_; clear n0_ n1_ n2_ n3_; clear hb hbox hg))
     have n0_ := Aside0.mk (blk_drew BK101.out)
     have n1_ := Aside0.mk (below_drew1 HB.out)
     clear BK101 HB; have BK101 := n0_; have HB := n1_; clear n0_ n1_
     refine start_ (n := 30) (S := fun w' => w'.cell? ⟨gb101, 0, none⟩ = some (.int .i64 a0_0) ∧ w'.cell? ⟨gb101, 1, none⟩ = some (.int .i64 a0_1)) (ds := []) #[false, false, false, false, false, false, false, false, false, false, false, false, false, false, false, false, false, false, false, false, false, false, false, false, false, false, false, false, false, false] (by kernel_rfl) rfl rfl ⟨(blk_cell BK101.out 0).trans rfl, (blk_cell BK101.out 1).trans rfl⟩ (fun hHeld => ?_); refine with_tabW rat_Valid.tab1 rat_Valid.bits1 (fun HT_ HW_ => ?_)
     generalize w13.drew = w14 at BK101 HB hHeld ⊢
     refine pX (i := 0) (N := some 3) rfl rfl HT_ ?_
     refine tX (i := 1) (N := some 4) rfl rfl HT_ HW_ hHeld (Or.inl ⟨by rfl, by rintro w' ⟨s0, s1⟩; go_simp; with_reducible rfl⟩) ?_
     refine pX (i := 2) (N := some 5) rfl rfl HT_ ?_
     refine pX (i := 3) (N := some 6) rfl rfl HT_ ?_
     refine pX (i := 4) (N := some 7) rfl rfl HT_ ?_
     refine tX (i := 5) (N := some 8) rfl rfl HT_ HW_ hHeld (Or.inl ⟨by rfl, by rintro w' ⟨s0, s1⟩; go_simp; with_reducible rfl⟩) ?_
     refine pX (i := 6) (N := some 9) rfl rfl HT_ ?_
     refine pX (i := 7) (N := some 10) rfl rfl HT_ ?_
     refine pX (i := 8) (N := some 11) rfl rfl HT_ ?_
     refine pX (i := 9) (N := some 12) rfl rfl HT_ ?_
     refine tX (i := 10) (N := some 13) rfl rfl HT_ HW_ hHeld (Or.inl ⟨by rfl, by rintro w' ⟨s0, s1⟩; go_simp; with_reducible rfl⟩) ?_
     refine pX (i := 11) (N := some 14) rfl rfl HT_ ?_
     refine pX (i := 12) (N := some 15) rfl rfl HT_ ?_
     refine pX (i := 13) (N := some 16) rfl rfl HT_ ?_
     refine pX (i := 14) (N := some 17) rfl rfl HT_ ?_
     refine tX (i := 15) (N := some 18) rfl rfl HT_ HW_ hHeld (Or.inl ⟨by rfl, by rintro w' ⟨s0, s1⟩; go_simp; with_reducible rfl⟩) ?_
     refine pX (i := 16) (N := some 19) rfl rfl HT_ ?_
     refine pX (i := 17) (N := some 20) rfl rfl HT_ ?_
     refine pX (i := 18) (N := some 21) rfl rfl HT_ ?_
     refine pU (i := 19) (N := some 22) rfl rfl HT_ ?_
     refine pU (i := 20) (N := some 23) rfl rfl HT_ ?_
     refine pU (i := 21) (N := some 24) rfl rfl HT_ ?_
     refine pU (i := 22) (N := some 25) rfl rfl HT_ ?_
     refine pU (i := 23) (N := some 26) rfl rfl HT_ ?_
     refine pU (i := 24) (N := some 27) rfl rfl HT_ ?_
     refine pU (i := 25) (N := some 28) rfl rfl HT_ ?_
     refine pU (i := 26) (N := some 29) rfl rfl HT_ ?_
     refine pU (i := 27) (N := some 30) rfl rfl HT_ ?_
     refine pX (i := 28) (N := some 31) rfl rfl HT_ ?_
     refine pX (i := 29) (N := some 2) rfl rfl HT_ ?_
     refine done_ (done_of HT_.out (by kernel_rfl)) ?_
     try go_wp2
     go_ret
     exact ⟨by first | rfl | (simp [errW_none, errW_some] <;> rfl) | (simp [*, errW_none, errW_some] <;> rfl), by repeat (first | (with_reducible first | exact HB.out | apply below_alloc | apply pw_below_drewN | apply below_drew1 | refine below_set ?_ GE101.out) | exact HB.out)⟩
   ·rw [if_neg c4] at H
    have c4b0 : decide ((-4611686018427387904) ≤ a0_0) = false := decide_eq_false c4
    clear c4
    obtain rfl := Option.some.inj H
    go_enter Try.func46, Try.ntmps46
    try go_wp2_with (first | ((with_reducible refine gate_dst (N := 1) rfl ?_); (try (refine gate_guard (by rfl) ?_; dsimp only)); refine box_event ?hg (N := 1) ?hd (cs := #[.int .i64 a0_0, .int .i64 a0_1]) (t := 35) ?hr ?_; (case hd => rfl); (case hg => rfl); (case hr => first | (go_simp; done) | (go_simp; rfl)); intro gb101 hg w15 hbox hb; have n0_ := Aside0.mk (below_step (by repeat (first | (with_reducible first | exact HB.out | apply below_alloc | apply pw_below_drewN | apply below_drew1) | exact HB.out)) hb); have n1_ := Aside0.mk (hbox); have n2_ := Aside0.mk ((by rw [hg]; exact (below_size (by repeat (first | (with_reducible first | exact HB.out | apply below_alloc | apply pw_below_drewN | apply below_drew1) | exact HB.out))) : w.heap.size ≤ gb101)); have n3_ := Aside0.mk ((by rw [hg]; exact (below_size (by repeat (first | (with_reducible first | exact HB.out | apply below_alloc | apply pw_below_drewN | apply below_drew1) | exact HB.out))) : w.heap.size ≤ gb101)); clear HB; have HB := n0_; have BK101 := n1_; have GW101 := n2_; have GE101 := n3_; clear n0_ n1_ n2_ n3_; clear hb hbox hg))
    have n0_ := Aside0.mk (blk_drew BK101.out)
    have n1_ := Aside0.mk (below_drew1 HB.out)
    clear BK101 HB; have BK101 := n0_; have HB := n1_; clear n0_ n1_
    refine start_ (n := 30) (S := fun w' => w'.cell? ⟨gb101, 0, none⟩ = some (.int .i64 a0_0) ∧ w'.cell? ⟨gb101, 1, none⟩ = some (.int .i64 a0_1)) (ds := []) #[false, false, false, false, false, false, false, false, false, false, false, false, false, false, false, false, false, false, false, false, false, false, false, false, false, false, false, false, false, false] (by kernel_rfl) rfl rfl ⟨(blk_cell BK101.out 0).trans rfl, (blk_cell BK101.out 1).trans rfl⟩ (fun hHeld => ?_); refine with_tabW rat_Valid.tab1 rat_Valid.bits1 (fun HT_ HW_ => ?_)
    generalize w15.drew = w16 at BK101 HB hHeld ⊢
    refine pX (i := 0) (N := some 3) rfl rfl HT_ ?_
    refine tX (i := 1) (N := some 4) rfl rfl HT_ HW_ hHeld (Or.inl ⟨by rfl, by rintro w' ⟨s0, s1⟩; go_simp; with_reducible rfl⟩) ?_
    refine pX (i := 2) (N := some 5) rfl rfl HT_ ?_
    refine pX (i := 3) (N := some 6) rfl rfl HT_ ?_
    refine pX (i := 4) (N := some 7) rfl rfl HT_ ?_
    refine tX (i := 5) (N := some 8) rfl rfl HT_ HW_ hHeld (Or.inl ⟨by rfl, by rintro w' ⟨s0, s1⟩; go_simp; with_reducible rfl⟩) ?_
    refine pX (i := 6) (N := some 9) rfl rfl HT_ ?_
    refine pX (i := 7) (N := some 10) rfl rfl HT_ ?_
    refine pX (i := 8) (N := some 11) rfl rfl HT_ ?_
    refine pX (i := 9) (N := some 12) rfl rfl HT_ ?_
    refine tX (i := 10) (N := some 13) rfl rfl HT_ HW_ hHeld (Or.inl ⟨by rfl, by rintro w' ⟨s0, s1⟩; go_simp; with_reducible rfl⟩) ?_
    refine pX (i := 11) (N := some 14) rfl rfl HT_ ?_
    refine pX (i := 12) (N := some 15) rfl rfl HT_ ?_
    refine pX (i := 13) (N := some 16) rfl rfl HT_ ?_
    refine pU (i := 14) (N := some 17) rfl rfl HT_ ?_
    refine pU (i := 15) (N := some 18) rfl rfl HT_ ?_
    refine pU (i := 16) (N := some 19) rfl rfl HT_ ?_
    refine pX (i := 17) (N := some 20) rfl rfl HT_ ?_
    refine pX (i := 18) (N := some 21) rfl rfl HT_ ?_
    refine pU (i := 19) (N := some 22) rfl rfl HT_ ?_
    refine pU (i := 20) (N := some 23) rfl rfl HT_ ?_
    refine pU (i := 21) (N := some 24) rfl rfl HT_ ?_
    refine pU (i := 22) (N := some 25) rfl rfl HT_ ?_
    refine pU (i := 23) (N := some 26) rfl rfl HT_ ?_
    refine pU (i := 24) (N := some 27) rfl rfl HT_ ?_
    refine pU (i := 25) (N := some 28) rfl rfl HT_ ?_
    refine pU (i := 26) (N := some 29) rfl rfl HT_ ?_
    refine pU (i := 27) (N := some 30) rfl rfl HT_ ?_
    refine pX (i := 28) (N := some 31) rfl rfl HT_ ?_
    refine pX (i := 29) (N := some 2) rfl rfl HT_ ?_
    refine done_ (done_of HT_.out (by kernel_rfl)) ?_
    try go_wp2
    go_ret
    exact ⟨by first | rfl | (simp [errW_none, errW_some] <;> rfl) | (simp [*, errW_none, errW_some] <;> rfl), by repeat (first | (with_reducible first | exact HB.out | apply below_alloc | apply pw_below_drewN | apply below_drew1 | refine below_set ?_ GE101.out) | exact HB.out)⟩
  ·rw [if_neg c3] at H
   have c3b0 : decide (a0_1 ≤ 4611686018427387904) = false := decide_eq_false c3
   clear c3
   obtain rfl := Option.some.inj H
   go_enter Try.func46, Try.ntmps46
   try go_wp2_with (first | ((with_reducible refine gate_dst (N := 1) rfl ?_); (try (refine gate_guard (by rfl) ?_; dsimp only)); refine box_event ?hg (N := 1) ?hd (cs := #[.int .i64 a0_0, .int .i64 a0_1]) (t := 35) ?hr ?_; (case hd => rfl); (case hg => rfl); (case hr => first | (go_simp; done) | (go_simp; rfl)); intro gb101 hg w17 hbox hb; have n0_ := Aside0.mk (below_step (by repeat (first | (with_reducible first | exact HB.out | apply below_alloc | apply pw_below_drewN | apply below_drew1) | exact HB.out)) hb); have n1_ := Aside0.mk (hbox); have n2_ := Aside0.mk ((by rw [hg]; exact (below_size (by repeat (first | (with_reducible first | exact HB.out | apply below_alloc | apply pw_below_drewN | apply below_drew1) | exact HB.out))) : w.heap.size ≤ gb101)); have n3_ := Aside0.mk ((by rw [hg]; exact (below_size (by repeat (first | (with_reducible first | exact HB.out | apply below_alloc | apply pw_below_drewN | apply below_drew1) | exact HB.out))) : w.heap.size ≤ gb101)); clear HB; have HB := n0_; have BK101 := n1_; have GW101 := n2_; have GE101 := n3_; clear n0_ n1_ n2_ n3_; clear hb hbox hg))
   have n0_ := Aside0.mk (blk_drew BK101.out)
   have n1_ := Aside0.mk (below_drew1 HB.out)
   clear BK101 HB; have BK101 := n0_; have HB := n1_; clear n0_ n1_
   refine start_ (n := 30) (S := fun w' => w'.cell? ⟨gb101, 0, none⟩ = some (.int .i64 a0_0) ∧ w'.cell? ⟨gb101, 1, none⟩ = some (.int .i64 a0_1)) (ds := []) #[false, false, false, false, false, false, false, false, false, false, false, false, false, false, false, false, false, false, false, false, false, false, false, false, false, false, false, false, false, false] (by kernel_rfl) rfl rfl ⟨(blk_cell BK101.out 0).trans rfl, (blk_cell BK101.out 1).trans rfl⟩ (fun hHeld => ?_); refine with_tabW rat_Valid.tab1 rat_Valid.bits1 (fun HT_ HW_ => ?_)
   generalize w17.drew = w18 at BK101 HB hHeld ⊢
   refine pX (i := 0) (N := some 3) rfl rfl HT_ ?_
   refine tX (i := 1) (N := some 4) rfl rfl HT_ HW_ hHeld (Or.inl ⟨by rfl, by rintro w' ⟨s0, s1⟩; go_simp; with_reducible rfl⟩) ?_
   refine pX (i := 2) (N := some 5) rfl rfl HT_ ?_
   refine pX (i := 3) (N := some 6) rfl rfl HT_ ?_
   refine pX (i := 4) (N := some 7) rfl rfl HT_ ?_
   refine tX (i := 5) (N := some 8) rfl rfl HT_ HW_ hHeld (Or.inl ⟨by rfl, by rintro w' ⟨s0, s1⟩; go_simp; with_reducible rfl⟩) ?_
   refine pX (i := 6) (N := some 9) rfl rfl HT_ ?_
   refine pX (i := 7) (N := some 10) rfl rfl HT_ ?_
   refine pX (i := 8) (N := some 11) rfl rfl HT_ ?_
   refine pU (i := 9) (N := some 12) rfl rfl HT_ ?_
   refine pU (i := 10) (N := some 13) rfl rfl HT_ ?_
   refine pU (i := 11) (N := some 14) rfl rfl HT_ ?_
   refine pX (i := 12) (N := some 15) rfl rfl HT_ ?_
   refine pX (i := 13) (N := some 16) rfl rfl HT_ ?_
   refine pU (i := 14) (N := some 17) rfl rfl HT_ ?_
   refine pU (i := 15) (N := some 18) rfl rfl HT_ ?_
   refine pU (i := 16) (N := some 19) rfl rfl HT_ ?_
   refine pX (i := 17) (N := some 20) rfl rfl HT_ ?_
   refine pX (i := 18) (N := some 21) rfl rfl HT_ ?_
   refine pU (i := 19) (N := some 22) rfl rfl HT_ ?_
   refine pU (i := 20) (N := some 23) rfl rfl HT_ ?_
   refine pU (i := 21) (N := some 24) rfl rfl HT_ ?_
   refine pU (i := 22) (N := some 25) rfl rfl HT_ ?_
   refine pU (i := 23) (N := some 26) rfl rfl HT_ ?_
   refine pU (i := 24) (N := some 27) rfl rfl HT_ ?_
   refine pU (i := 25) (N := some 28) rfl rfl HT_ ?_
   refine pU (i := 26) (N := some 29) rfl rfl HT_ ?_
   refine pU (i := 27) (N := some 30) rfl rfl HT_ ?_
   refine pX (i := 28) (N := some 31) rfl rfl HT_ ?_
   refine pX (i := 29) (N := some 2) rfl rfl HT_ ?_
   refine done_ (done_of HT_.out (by kernel_rfl)) ?_
   try go_wp2
   go_ret
   exact ⟨by first | rfl | (simp [errW_none, errW_some] <;> rfl) | (simp [*, errW_none, errW_some] <;> rfl), by repeat (first | (with_reducible first | exact HB.out | apply below_alloc | apply pw_below_drewN | apply below_drew1 | refine below_set ?_ GE101.out) | exact HB.out)⟩
 ·rw [if_neg c2] at H
  have c2b0 : decide (1 ≤ a0_1) = false := decide_eq_false c2
  clear c2
  obtain rfl := Option.some.inj H
  go_enter Try.func46, Try.ntmps46
  try go_wp2_with (first | ((with_reducible refine gate_dst (N := 1) rfl ?_); (try (refine gate_guard (by rfl) ?_; dsimp only)); refine box_event ?hg (N := 1) ?hd (cs := #[.int .i64 a0_0, .int .i64 a0_1]) (t := 35) ?hr ?_; (case hd => rfl); (case hg => rfl); (case hr => first | (go_simp; done) | (go_simp; rfl)); intro gb101 hg w19 hbox hb; have n0_ := Aside0.mk (below_step (by repeat (first | (with_reducible first | exact HB.out | apply below_alloc | apply pw_below_drewN | apply below_drew1) | exact HB.out)) hb); have n1_ := Aside0.mk (hbox); have n2_ := Aside0.mk ((by rw [hg]; exact (below_size (by repeat (first | (with_reducible first | exact HB.out | apply below_alloc | apply pw_below_drewN | apply below_drew1) | exact HB.out))) : w.heap.size ≤ gb101)); have n3_ := Aside0.mk ((by rw [hg]; exact (below_size (by repeat (first | (with_reducible first | exact HB.out | apply below_alloc | apply pw_below_drewN | apply below_drew1) | exact HB.out))) : w.heap.size ≤ gb101)); clear HB; have HB := n0_; have BK101 := n1_; have GW101 := n2_; have GE101 := n3_; clear n0_ n1_ n2_ n3_; clear hb hbox hg))
  have n0_ := Aside0.mk (blk_drew BK101.out)
  have n1_ := Aside0.mk (below_drew1 HB.out)
  clear BK101 HB; have BK101 := n0_; have HB := n1_; clear n0_ n1_
  refine start_ (n := 30) (S := fun w' => w'.cell? ⟨gb101, 0, none⟩ = some (.int .i64 a0_0) ∧ w'.cell? ⟨gb101, 1, none⟩ = some (.int .i64 a0_1)) (ds := []) #[false, false, false, false, false, false, false, false, false, false, false, false, false, false, false, false, false, false, false, false, false, false, false, false, false, false, false, false, false, false] (by kernel_rfl) rfl rfl ⟨(blk_cell BK101.out 0).trans rfl, (blk_cell BK101.out 1).trans rfl⟩ (fun hHeld => ?_); refine with_tabW rat_Valid.tab1 rat_Valid.bits1 (fun HT_ HW_ => ?_)
  generalize w19.drew = w20 at BK101 HB hHeld ⊢
  refine pX (i := 0) (N := some 3) rfl rfl HT_ ?_
  refine tX (i := 1) (N := some 4) rfl rfl HT_ HW_ hHeld (Or.inl ⟨by rfl, by rintro w' ⟨s0, s1⟩; go_simp; with_reducible rfl⟩) ?_
  refine pX (i := 2) (N := some 5) rfl rfl HT_ ?_
  refine pX (i := 3) (N := some 6) rfl rfl HT_ ?_
  refine pU (i := 4) (N := some 7) rfl rfl HT_ ?_
  refine pU (i := 5) (N := some 8) rfl rfl HT_ ?_
  refine pU (i := 6) (N := some 9) rfl rfl HT_ ?_
  refine pX (i := 7) (N := some 10) rfl rfl HT_ ?_
  refine pX (i := 8) (N := some 11) rfl rfl HT_ ?_
  refine pU (i := 9) (N := some 12) rfl rfl HT_ ?_
  refine pU (i := 10) (N := some 13) rfl rfl HT_ ?_
  refine pU (i := 11) (N := some 14) rfl rfl HT_ ?_
  refine pX (i := 12) (N := some 15) rfl rfl HT_ ?_
  refine pX (i := 13) (N := some 16) rfl rfl HT_ ?_
  refine pU (i := 14) (N := some 17) rfl rfl HT_ ?_
  refine pU (i := 15) (N := some 18) rfl rfl HT_ ?_
  refine pU (i := 16) (N := some 19) rfl rfl HT_ ?_
  refine pX (i := 17) (N := some 20) rfl rfl HT_ ?_
  refine pX (i := 18) (N := some 21) rfl rfl HT_ ?_
  refine pU (i := 19) (N := some 22) rfl rfl HT_ ?_
  refine pU (i := 20) (N := some 23) rfl rfl HT_ ?_
  refine pU (i := 21) (N := some 24) rfl rfl HT_ ?_
  refine pU (i := 22) (N := some 25) rfl rfl HT_ ?_
  refine pU (i := 23) (N := some 26) rfl rfl HT_ ?_
  refine pU (i := 24) (N := some 27) rfl rfl HT_ ?_
  refine pU (i := 25) (N := some 28) rfl rfl HT_ ?_
  refine pU (i := 26) (N := some 29) rfl rfl HT_ ?_
  refine pU (i := 27) (N := some 30) rfl rfl HT_ ?_
  refine pX (i := 28) (N := some 31) rfl rfl HT_ ?_
  refine pX (i := 29) (N := some 2) rfl rfl HT_ ?_
  refine done_ (done_of HT_.out (by kernel_rfl)) ?_
  try go_wp2
  go_ret
  exact ⟨by first | rfl | (simp [errW_none, errW_some] <;> rfl) | (simp [*, errW_none, errW_some] <;> rfl), by repeat (first | (with_reducible first | exact HB.out | apply below_alloc | apply pw_below_drewN | apply below_drew1 | refine below_set ?_ GE101.out) | exact HB.out)⟩
end Go.Proofs.Ytohnkcmbogcfhaa.P
namespace Go.Proofs.Ytohnkcmbogcfhaa.R
open Go.RowKit Go.Proofs.Ytohnkcmbogcfhaa.P Go.Proofs.YtohnkcmbogcfhaaW.PrintWords Go.Proofs.YtohnkcmbogcfhaaW.PrintLast Go.Proofs.YtohnkcmbogcfhaaW.PrintMore
theorem u64_mask (x : Int) (h0 : 0 ≤ x) (h1 : x ≤ 18446744073709551615) : Go.bits .and .u64 x 4294967295 = x % 4294967296 :=
 bits_mask .u64 64 (by decide) (fun n h0 h1 => u64_of h0 (by omega)) 32 (by decide) x h0 (by omega)
theorem mul64 (a b : Nat) (ha : a ≤ 18446744073709551615) (hb : b ≤ 18446744073709551615) : bits_Mul64.f (a : Int) (b : Int) = some (((a * b / 18446744073709551616 : Nat) : Int), ((a * b % 18446744073709551616 : Nat) : Int)) := by
 obtain ⟨x1, hx1⟩ : ∃ x1, x1 = a / 4294967296 := ⟨_, rfl⟩
 obtain ⟨x0, hx0⟩ : ∃ x0, x0 = a % 4294967296 := ⟨_, rfl⟩
 obtain ⟨y1, hy1⟩ : ∃ y1, y1 = b / 4294967296 := ⟨_, rfl⟩
 obtain ⟨y0, hy0⟩ : ∃ y0, y0 = b % 4294967296 := ⟨_, rfl⟩
 have ea : a = x1 * 4294967296 + x0 := by omega
 have eb : b = y1 * 4294967296 + y0 := by omega
 have bx1 : x1 ≤ 4294967295 := by omega
 have bx0 : x0 ≤ 4294967295 := by omega
 have by1 : y1 ≤ 4294967295 := by omega
 have by0 : y0 ≤ 4294967295 := by omega
 have i1 : (a : Int) / 4294967296 = (x1 : Int) := by omega
 have i2 : (b : Int) / 4294967296 = (y1 : Int) := by omega
 have i3 : Go.bits .and .u64 (a : Int) 4294967295 = (x0 : Int) := by rw [u64_mask _ (by omega) (by omega)]; omega
 have i4 : Go.bits .and .u64 (b : Int) 4294967295 = (y0 : Int) := by rw [u64_mask _ (by omega) (by omega)]; omega
 have p11 : x1 * y1 ≤ 4294967295 * 4294967295 := Nat.mul_le_mul bx1 by1
 have p10 : x1 * y0 ≤ 4294967295 * 4294967295 := Nat.mul_le_mul bx1 by0
 have p01 : x0 * y1 ≤ 4294967295 * 4294967295 := Nat.mul_le_mul bx0 by1
 have p00 : x0 * y0 ≤ 4294967295 * 4294967295 := Nat.mul_le_mul bx0 by0
 have eab : a * b = (x1 * y1) * 18446744073709551616 + (x1 * y0 + x0 * y1) * 4294967296 + x0 * y0 := by
  rw [ea, eb]
  grind
 have c11 : (x1 : Int) * (y1 : Int) = ((x1 * y1 : Nat) : Int) := by push_cast; rfl
 have c10 : (x1 : Int) * (y0 : Int) = ((x1 * y0 : Nat) : Int) := by push_cast; rfl
 have c01 : (x0 : Int) * (y1 : Int) = ((x0 * y1 : Nat) : Int) := by push_cast; rfl
 have c00 : (x0 : Int) * (y0 : Int) = ((x0 * y0 : Nat) : Int) := by push_cast; rfl
 have cab : (a : Int) * (b : Int) = ((a * b : Nat) : Int) := by push_cast; rfl
 unfold bits_Mul64.f
 rw [i1, i2, i3, i4, c11, c10, c01, c00, cab]
 generalize x1 * y1 = P11 at *
 generalize x1 * y0 = P10 at *
 generalize x0 * y1 = P01 at *
 generalize x0 * y0 = P00 at *
 generalize a * b = AB at *
 have w00 : IntKind.u64.wrap (P00 : Int) = (P00 : Int) := u64_of (by omega) (by omega)
 have w11 : IntKind.u64.wrap (P11 : Int) = (P11 : Int) := u64_of (by omega) (by omega)
 have w10 : IntKind.u64.wrap (P10 : Int) = (P10 : Int) := u64_of (by omega) (by omega)
 have w01 : IntKind.u64.wrap (P01 : Int) = (P01 : Int) := u64_of (by omega) (by omega)
 rw [w00, w11, w10, w01]
 have wt : IntKind.u64.wrap ((P10 : Int) + (P00 : Int) / 4294967296) = ((P10 + P00 / 4294967296 : Nat) : Int) := by rw [u64_of (by omega) (by omega)]; omega
 rw [wt]
 obtain ⟨T, hT⟩ : ∃ T, T = P10 + P00 / 4294967296 := ⟨_, rfl⟩
 rw [← hT]
 rw [u64_mask (T : Int) (by omega) (by omega)]
 have ww : IntKind.u64.wrap ((T : Int) % 4294967296 + (P01 : Int)) = ((T % 4294967296 + P01 : Nat) : Int) := by rw [u64_of (by omega) (by omega)]; omega
 rw [ww]
 have wh : IntKind.u64.wrap ((P11 : Int) + (T : Int) / 4294967296) = ((P11 + T / 4294967296 : Nat) : Int) := by rw [u64_of (by omega) (by omega)]; omega
 rw [wh, u64_of (by omega) (by omega), u64_def]
 congr 1
 refine Prod.ext ?_ ?_
 ·simp only; omega
 ·simp only; omega
theorem abs_of (a : Int) (h0 : -9223372036854775808 ≤ a) (h1 : a ≤ 9223372036854775807) : rat_abs.f a = some (a.natAbs : Int) := by
 unfold rat_abs.f
 by_cases h : a < 0
 ·rw [if_pos h, u64_def, u64_def]
  congr 1
  omega
 ·rw [if_neg h, u64_of (by omega) (by omega)]
  congr 1
  omega
/-- A number of 128 bits: its upper and its lower half. -/
def hi (m : Nat) : Int := ((m / 18446744073709551616 : Nat) : Int)
def lo (m : Nat) : Int := ((m % 18446744073709551616 : Nat) : Int)
theorem times_of (a b : Int) (ha0 : -9223372036854775808 ≤ a) (ha1 : a ≤ 9223372036854775807) (hb0 : -9223372036854775808 ≤ b) (hb1 : b ≤ 9223372036854775807) :
  rat_times.f a b = some ((decide (a < 0) != decide (b < 0)), hi (a.natAbs * b.natAbs), lo (a.natAbs * b.natAbs)) := by
 unfold rat_times.f
 rw [abs_of a ha0 ha1, abs_of b hb0 hb1]
 simp only [Option.bind_some]
 rw [mul64 _ _ (by omega) (by omega)]
 rfl
theorem atLeast_of (s t : Bool) (m n : Nat) : rat_wide_atLeast.f s (hi m) (lo m) t (hi n) (lo n) = some (decide (n ≤ m)) := by
 unfold rat_wide_atLeast.f hi lo
 by_cases h1 : ((m / 18446744073709551616 : Nat) : Int) > ((n / 18446744073709551616 : Nat) : Int)
 ·rw [if_pos h1, decide_eq_true (by omega)]
 ·rw [if_neg h1]
  by_cases h2 : ((m / 18446744073709551616 : Nat) : Int) = ((n / 18446744073709551616 : Nat) : Int)
  ·rw [if_pos h2]
   congr 1
   rw [decide_eq_decide]
   omega
  ·rw [if_neg h2, decide_eq_false (by omega)]
theorem sub_of (m n : Nat) (hm : m < 340282366920938463463374607431768211456) (h : n ≤ m) :
  ∃ c, bits_Sub64.f (lo m) (lo n) 0 = some (lo (m - n), c) ∧ ∃ c', bits_Sub64.f (hi m) (hi n) c = some (hi (m - n), c') := by
 unfold bits_Sub64.f hi lo
 rw [if_pos (by omega)]
 refine ⟨if ((m % 18446744073709551616 : Nat) : Int) < ((n % 18446744073709551616 : Nat) : Int) + 0 then 1 else 0, ?_, ?_⟩
 ·refine congrArg some (Prod.ext ?_ rfl)
  simp only
  omega
 ·rw [if_pos (by split <;> omega)]
  generalize hc : (if ((m % 18446744073709551616 : Nat) : Int) < ((n % 18446744073709551616 : Nat) : Int) + 0 then (1 : Int) else 0) = c
  refine ⟨if ((m / 18446744073709551616 : Nat) : Int) < ((n / 18446744073709551616 : Nat) : Int) + c then 1 else 0, congrArg some (Prod.ext ?_ rfl)⟩
  simp only
  split at hc <;> omega
theorem plus_of (s t : Bool) (m n : Nat) (hm : m < 170141183460469231731687303715884105728) (hn : n < 170141183460469231731687303715884105728) :
  rat_wide_plus.f s (hi m) (lo m) t (hi n) (lo n) = some (if s = t then (s, hi (m + n), lo (m + n)) else if n ≤ m then (s, hi (m - n), lo (m - n)) else (t, hi (n - m), lo (n - m))) := by
 unfold rat_wide_plus.f
 by_cases hst : s = t
 ·subst hst
  rw [if_pos (by simp), if_pos rfl]
  unfold bits_Add64.f hi lo
  rw [if_pos (by omega)]
  simp only [Option.bind_some]
  rw [if_pos (by omega)]
  simp only [Option.bind_some]
  refine congrArg some (Prod.ext rfl (Prod.ext ?_ ?_))
  ·simp only; omega
  ·simp only; omega
 ·rw [if_neg (by simpa using hst), if_neg hst, atLeast_of]
  simp only [Option.bind_some]
  by_cases hle : n ≤ m
  ·rw [if_pos (by simpa using hle), if_pos hle]
   obtain ⟨c, e1, c', e2⟩ := sub_of m n (by omega) hle
   rw [e1]
   simp only [Option.bind_some]
   rw [e2]
   rfl
  ·rw [if_neg (by simpa using hle), if_neg hle]
   obtain ⟨c, e1, c', e2⟩ := sub_of n m (by omega) (by omega)
   rw [e1]
   simp only [Option.bind_some]
   rw [e2]
   rfl
theorem prod_lt (a b : Nat) (ha : a ≤ 9223372036854775808) (hb : b ≤ 9223372036854775808) : a * b < 170141183460469231731687303715884105728 := by
 have := Nat.mul_le_mul ha hb
 omega
/-- Fractions that are not negative are compared by their cross products. -/
theorem cmp_nat (an ad bn bd : Nat) (h1 : an ≤ 9223372036854775807) (h2 : ad ≤ 9223372036854775807) (h3 : bn ≤ 9223372036854775807) (h4 : bd ≤ 9223372036854775807) :
  rat_Cmp.f (an : Int) (ad : Int) (bn : Int) (bd : Int) = some (if an = bn ∧ ad = bd then 0 else if an * bd < bn * ad then -1 else 1) := by
 unfold rat_Cmp.f
 by_cases he : an = bn ∧ ad = bd
 ·rw [if_pos (by simp; omega), if_pos he]
 ·rw [if_neg (by simp; omega), if_neg he, times_of _ _ (by omega) (by omega) (by omega) (by omega)]
  simp only [Option.bind_some]
  rw [times_of _ _ (by omega) (by omega) (by omega) (by omega)]
  simp only [Option.bind_some, Int.natAbs_natCast]
  have e1 : ∀ x y : Nat, (decide ((x : Int) < 0) != decide ((y : Int) < 0)) = false := by
   intro x y
   rw [decide_eq_false (by omega), decide_eq_false (by omega)]; rfl
  rw [e1, e1, plus_of _ _ _ _ (prod_lt _ _ (by omega) (by omega)) (prod_lt _ _ (by omega) (by omega))]
  simp only [Bool.not_false, Option.bind_some, Bool.false_eq_true, if_false]
  by_cases hlt : an * bd < bn * ad
  ·have h' : ¬ (bn * ad ≤ an * bd) := by omega
   simp only [if_neg h', if_pos hlt, if_true]
  ·have h' : bn * ad ≤ an * bd := by omega
   simp only [if_pos h', if_neg hlt, Bool.false_eq_true, if_false]
end Go.Proofs.Ytohnkcmbogcfhaa.R
namespace Go.Proofs.Ytohnkcmbogcfhaa.R
open Go.RowKit Go.Proofs.Ytohnkcmbogcfhaa.P Go.Proofs.YtohnkcmbogcfhaaW.PrintWords Go.Proofs.YtohnkcmbogcfhaaW.PrintLast Go.Proofs.YtohnkcmbogcfhaaW.PrintMore
/-- What a description's numbers are. -/
def raw (x : S96) : Prop := (0 ≤ x.f0 ∧ x.f0 ≤ 255) ∧ (0 ≤ x.f1 ∧ x.f1 ≤ 255) ∧ (0 ≤ x.f2 ∧ x.f2 ≤ 65535) ∧ 0 ≤ x.f3 ∧ x.f3 ≤ 65535
theorem wf_u8 {n : Int} (h : (Lit.int .u8 n).wf = true) : 0 ≤ n ∧ n ≤ 255 := by
 simp only [Lit.wf, IntKind.min, IntKind.max, IntKind.signed, IntKind.bits, Bool.and_eq_true] at h
 simpa using h
theorem wf_u16 {n : Int} (h : (Lit.int .u16 n).wf = true) : 0 ≤ n ∧ n ≤ 65535 := by
 simp only [Lit.wf, IntKind.min, IntKind.max, IntKind.signed, IntKind.bits, Bool.and_eq_true] at h
 simpa using h
theorem wf_u32 {n : Int} (h : (Lit.int .u32 n).wf = true) : 0 ≤ n ∧ n ≤ 4294967295 := by
 simp only [Lit.wf, IntKind.min, IntKind.max, IntKind.signed, IntKind.bits, Bool.and_eq_true] at h
 simpa using h
theorem raw_of {x : S96} (h : (Lit.int .u8 x.f0).wf = true ∧ (Lit.int .u8 x.f1).wf = true ∧ (Lit.int .u16 x.f2).wf = true ∧ (Lit.int .u16 x.f3).wf = true) : raw x :=
 ⟨wf_u8 h.1, wf_u8 h.2.1, wf_u16 h.2.2.1, wf_u16 h.2.2.2⟩
def mkB (x : S96) (k : Int) : S71 := ⟨k, if x.f1 % 8 = 7 then 1073741824 - x.f2 % 3 else x.f2, x.f3⟩
def pickB (l : List S96) (k : Int) : List S71 := match l.find? (fun x => 1 + x.f0 % 14 == k) with
 | some x => [mkB x k]
 | none => []
def madeFrom (l : List S96) : Nat → Int → List S71
 | 0, _ => []
 | d + 1, k => pickB l k ++ madeFrom l d (k + 1)
def madeL (l : List S96) : List S71 := madeFrom l 14 1
theorem made_l1 (l : List S96) (hl : l.length < 1000000) (hr : ∀ x ∈ l, raw x) (k : Int) (hk : 1 ≤ k ∧ k ≤ 14) (acc rest : List S71) (ha : acc.length < 1000000)
  (hnext : ∀ acc', acc'.length ≤ acc.length + 1 → Ev (fun n => paroleref37_Made.l0 n l acc' (k + 1)) (acc' ++ rest)) :
  ∀ (d i : Nat), i + d = l.length → Ev (fun n => paroleref37_Made.l1 n l acc k (i : Int)) (acc ++ (pickB (l.drop i) k ++ rest)) := by
 have hk1 : wrap64 (k + 1) = k + 1 := wrap64_of (by omega) (by omega)
 intro d
 induction d with
 | zero =>
  intro i h
  refine Ev.succ ?_
  simp only [paroleref37_Made.l1]
  refine Ev.neg (by omega) ?_
  rw [hk1, List.drop_eq_nil_of_le (by omega)]
  simpa [pickB] using hnext acc (by omega)
 | succ d ih =>
  intro i h
  have hi : i < l.length := by omega
  refine Ev.succ ?_
  simp only [paroleref37_Made.l1]
  have e : l.drop i = l[i] :: l.drop (i + 1) := List.drop_eq_getElem_cons hi
  have er : rd_T96 l (i : Int) = l[i] := by unfold rd_T96; simp [hi]
  have hw : wrap64 ((i : Int) + 1) = ((i + 1 : Nat) : Int) := by rw [wrap64_of (by omega) (by omega)]; omega
  have hx := hr l[i] (List.getElem_mem hi)
  have hih := ih (i + 1) (by omega)
  rw [e, er, hw, hk1]
  generalize l[i] = x at hx ⊢
  unfold raw at hx
  have m1 : x.f0.tmod 14 = x.f0 % 14 := Int.tmod_eq_emod_of_nonneg hx.1.1
  have m2 : x.f1.tmod 8 = x.f1 % 8 := Int.tmod_eq_emod_of_nonneg hx.2.1.1
  have m3 : x.f2.tmod 3 = x.f2 % 3 := Int.tmod_eq_emod_of_nonneg hx.2.2.1.1
  have w1 : wrap64 (1 + wrap64 (x.f0 % 14)) = 1 + x.f0 % 14 := by rw [wrap64_of (n := x.f0 % 14) (by omega) (by omega), wrap64_of (by omega) (by omega)]
  have w3 : wrap64 (1073741824 - wrap64 (x.f2 % 3)) = 1073741824 - x.f2 % 3 := by rw [wrap64_of (n := x.f2 % 3) (by omega) (by omega), wrap64_of (by omega) (by omega)]
  have w4 : wrap64 x.f3 = x.f3 := wrap64_of (by omega) (by omega)
  have w5 : wrap64 x.f2 = x.f2 := wrap64_of (by omega) (by omega)
  rw [m1, m2, m3, w1, w3, w4, w5]
  refine Ev.pos (by omega) (Ev.pos (by omega) ?_)
  by_cases c : 1 + x.f0 % 14 = k
  ·refine Ev.pos c ?_
   have ep : pickB (x :: l.drop (i + 1)) k = [mkB x k] := by simp [pickB, c]
   rw [ep]
   unfold mkB
   have go : ∀ y : S71, Ev (fun n => paroleref37_Made.l0 n l (acc ++ [y]) (k + 1)) (acc ++ ([y] ++ rest)) := by
    intro y
    have := hnext (acc ++ [y]) (by simp)
    simpa using this
   by_cases c8 : x.f1 % 8 = 7
   ·rw [if_pos c8]
    exact Ev.pos c8 (Ev.pos (by omega) (go _))
   ·rw [if_neg c8]
    exact Ev.neg c8 (Ev.pos (by omega) (go _))
  ·refine Ev.neg c ?_
   have ep : pickB (x :: l.drop (i + 1)) k = pickB (l.drop (i + 1)) k := by simp [pickB, c]
   rw [ep]
   exact hih
theorem made_l0 (l : List S96) (hl : l.length < 1000000) (hr : ∀ x ∈ l, raw x) : ∀ (d : Nat) (k : Int) (acc : List S71), k + d = 15 → 1 ≤ k → acc.length + d < 100 → Ev (fun n => paroleref37_Made.l0 n l acc k) (acc ++ madeFrom l d k) := by
 intro d
 induction d with
 | zero =>
  intro k acc h1 h2 h3
  refine Ev.succ ?_
  simp only [paroleref37_Made.l0, madeFrom, List.append_nil]
  exact Ev.neg (by omega) (Ev.now _)
 | succ d ih =>
  intro k acc h1 h2 h3
  refine Ev.succ ?_
  simp only [paroleref37_Made.l0, madeFrom]
  refine Ev.pos (by omega) ?_
  have := made_l1 l hl hr k ⟨h2, by omega⟩ acc (madeFrom l d (k + 1)) (by omega) (fun acc' ha' => ih (k + 1) acc' (by omega) (by omega) (by omega)) l.length 0 (by omega)
  simpa using this
theorem ev_Made (l : List S96) (hl : l.length < 1000000) (hr : ∀ x ∈ l, raw x) : Ev (fun n => paroleref37_Made.f n l) (madeL l) := by
 have := made_l0 l hl hr 14 1 [] (by omega) (by omega) (by simp)
 simpa [paroleref37_Made.f, madeL] using this
theorem pickB_mem (l : List S96) (hr : ∀ x ∈ l, raw x) (k : Int) (y : S71) (hy : y ∈ pickB l k) : y.f0 = k ∧ 0 ≤ y.f1 ∧ 0 ≤ y.f2 ∧ small y := by
 unfold pickB at hy
 split at hy
 ·rename_i x hx
  have hm := hr x (List.mem_of_find?_eq_some hx)
  simp only [List.mem_singleton] at hy
  subst hy
  unfold raw at hm
  unfold mkB small
  refine ⟨rfl, ?_, ?_, ?_, ?_⟩
  ·simp only; split <;> omega
  ·simp only; omega
  ·simp only; split <;> omega
  ·simp only; omega
 ·simp at hy
theorem madeFrom_mem (l : List S96) (hr : ∀ x ∈ l, raw x) : ∀ (d : Nat) (k : Int) (y : S71), y ∈ madeFrom l d k → k ≤ y.f0 ∧ y.f0 < k + d ∧ 0 ≤ y.f1 ∧ 0 ≤ y.f2 ∧ small y := by
 intro d
 induction d with
 | zero => intro k y hy; simp [madeFrom] at hy
 | succ d ih =>
  intro k y hy
  simp only [madeFrom, List.mem_append] at hy
  rcases hy with hy | hy
  ·have := pickB_mem l hr k y hy
   exact ⟨by omega, by omega, this.2.1, this.2.2.1, this.2.2.2⟩
  ·have := ih (k + 1) y hy
   exact ⟨by omega, by omega, this.2.2.1, this.2.2.2.1, this.2.2.2.2⟩
theorem madeFrom_sorted (l : List S96) (hr : ∀ x ∈ l, raw x) : ∀ (d : Nat) (k : Int), Sorted (madeFrom l d k) := by
 intro d
 induction d with
 | zero => intro k; exact List.Pairwise.nil
 | succ d ih =>
  intro k
  unfold Sorted
  simp only [madeFrom]
  rw [List.pairwise_append]
  refine ⟨?_, ih (k + 1), ?_⟩
  ·unfold pickB; split <;> simp
  ·intro a ha b hb
   have h1 := pickB_mem l hr k a ha
   have h2 := madeFrom_mem l hr d (k + 1) b hb
   omega
theorem made_book (l : List S96) (hr : ∀ x ∈ l, raw x) : Book (madeL l) := by
 refine ⟨⟨madeFrom_sorted l hr 14 1, fun x hx => ?_⟩, fun x hx => ?_⟩
 ·have := madeFrom_mem l hr 14 1 x hx
  unfold okx
  omega
 ·exact (madeFrom_mem l hr 14 1 x hx).2.2.2.2
def rn (N D : Nat) : Nat := N / Nat.gcd N D
def rd_ (N D : Nat) : Nat := D / Nat.gcd N D
theorem red_eq (N D : Nat) : N = rn N D * Nat.gcd N D ∧ D = rd_ N D * Nat.gcd N D :=
 ⟨(Nat.div_mul_cancel (Nat.gcd_dvd_left N D)).symm, (Nat.div_mul_cancel (Nat.gcd_dvd_right N D)).symm⟩
theorem red_gcd (N D : Nat) (hD : 0 < D) : Nat.gcd (rn N D) (rd_ N D) = 1 := Nat.coprime_div_gcd_div_gcd (Nat.gcd_pos_of_pos_right N hD)
theorem rn_le (N D : Nat) : rn N D ≤ N := Nat.div_le_self _ _
theorem rd_le (N D : Nat) : rd_ N D ≤ D := Nat.div_le_self _ _
theorem rd_pos (N D : Nat) (hD : 0 < D) : 0 < rd_ N D := Nat.div_pos (Nat.le_of_dvd hD (Nat.gcd_dvd_right N D)) (Nat.gcd_pos_of_pos_right N hD)
/-- Cross products keep their order when fractions are reduced. -/
theorem cross_lt (N1 D1 N2 D2 : Nat) (h1 : 0 < D1) (h2 : 0 < D2) : rn N1 D1 * rd_ N2 D2 < rn N2 D2 * rd_ N1 D1 ↔ N1 * D2 < N2 * D1 := by
 obtain ⟨e1, e2⟩ := red_eq N1 D1
 obtain ⟨e3, e4⟩ := red_eq N2 D2
 have g1 : 0 < Nat.gcd N1 D1 := Nat.gcd_pos_of_pos_right N1 h1
 have g2 : 0 < Nat.gcd N2 D2 := Nat.gcd_pos_of_pos_right N2 h2
 have k1 : N1 * D2 = (rn N1 D1 * rd_ N2 D2) * (Nat.gcd N1 D1 * Nat.gcd N2 D2) := by
  conv => lhs; rw [e1, e4]
  exact Nat.mul_mul_mul_comm _ _ _ _
 have k2 : N2 * D1 = (rn N2 D2 * rd_ N1 D1) * (Nat.gcd N1 D1 * Nat.gcd N2 D2) := by
  conv => lhs; rw [e3, e2]
  rw [Nat.mul_comm (Nat.gcd N1 D1)]
  exact Nat.mul_mul_mul_comm _ _ _ _
 rw [k1, k2]
 exact (Nat.mul_lt_mul_right (Nat.mul_pos g1 g2)).symm
theorem cmp_more (N1 D1 N2 D2 : Nat) (h1 : 0 < D1) (h2 : 0 < D2) (b1 : N1 ≤ 9223372036854775807) (b2 : D1 ≤ 9223372036854775807) (b3 : N2 ≤ 9223372036854775807) (b4 : D2 ≤ 9223372036854775807) (h : N2 * D1 < N1 * D2) :
  rat_Cmp.f (rn N1 D1 : Int) (rd_ N1 D1 : Int) (rn N2 D2 : Int) (rd_ N2 D2 : Int) = some 1 := by
 have hc := (cross_lt N2 D2 N1 D1 h2 h1).2 h
 rw [cmp_nat _ _ _ _ (Nat.le_trans (rn_le _ _) b1) (Nat.le_trans (rd_le _ _) b2) (Nat.le_trans (rn_le _ _) b3) (Nat.le_trans (rd_le _ _) b4)]
 rw [if_neg (fun he => by rw [he.1, he.2] at hc; exact Nat.lt_irrefl _ hc), if_neg (by omega)]
def cr (l : List S71) (k : Int) : Nat := (look l k).f1.toNat
def cw (l : List S71) (k : Int) : Nat := (look l k).f2.toNat
theorem cr_le (l : List S71) (h : Book l) (k : Int) : cr l k ≤ 1073741824 ∧ cw l k ≤ 1073741824 := by
 have := look_small l h.2 k
 unfold small at this
 unfold cr cw
 omega
theorem of_book (l : List S71) (h : Book l) (k : Int) (hk : -9223372036854775808 ≤ k ∧ k ≤ 9223372036854775807) : odds_book_of.f l k = some (k, (cr l k : Int), (cw l k : Int)) := by
 rw [of_spec l h.1 k hk.1 hk.2, look_f0]
 have := look_nn l h.1.2 k
 unfold cr cw
 rw [Int.toNat_of_nonneg this.1, Int.toNat_of_nonneg this.2]
theorem ev_LossB (l : List S71) (h : Book l) (k : Int) (hk : -9223372036854775808 ≤ k ∧ k ≤ 9223372036854775807) (cost : Nat) (hc : cost ≤ 1073741824) : Ev (fun n => odds_Loss.f n l k (cost : Int)) ((rn ((cr l k + 1) * cost) (cr l k + cw l k + 2) : Int), (rd_ ((cr l k + 1) * cost) (cr l k + cw l k + 2) : Int), 0) := by
 have hb := cr_le l h k
 exact ev_Loss l k k (cr l k) (cw l k) cost (of_book l h k hk) hb.1 hb.2 hc
/-- One answer more. -/
def ans (k : Int) (right : Bool) : S71 := if right then ⟨k, 1, 0⟩ else ⟨k, 0, 1⟩
theorem ans_book (k : Int) (hk : 1 ≤ k ∧ k ≤ 14) (right : Bool) : Book [ans k right] := by
 refine ⟨⟨by simp [Sorted], ?_⟩, ?_⟩ <;> intro x hx <;> simp only [List.mem_singleton] at hx <;> subst hx <;> cases right <;> simp [okx, small, ans] <;> omega
theorem look_ans (k j : Int) (right : Bool) : look [ans k right] j = if k = j then ans k right else ⟨j, 0, 0⟩ := by
 rw [look_cons, look_nil]
 cases right <;> rfl
theorem learnR_of (l : List S71) (k : Int) (hk : 1 ≤ k ∧ k ≤ 14) (right : Bool) : learnR l k right = joinR l [ans k right] := by
 unfold learnR ans
 rw [if_neg (by omega)]
/-- Joined books: a book again, or too great. -/
theorem joinR_cases (a b : List S71) (ha : Book a) (hb : Book b) : (joinR a b = ([], 2) ∧ ¬ Book (joinL a b)) ∨ (joinR a b = (joinL a b, 0) ∧ Book (joinL a b)) := by
 unfold joinR
 cases h : rightB (joinL a b) with
 | true => exact .inr ⟨rfl, (book_iff _).1 h⟩
 | false => exact .inl ⟨rfl, fun hb => by rw [(book_iff _).2 hb] at h; cases h⟩
theorem join_cr (a b : List S71) (ha : Book a) (hb : Book b) (k : Int) : cr (joinL a b) k = cr a k + cr b k ∧ cw (joinL a b) k = cw a k + cw b k := by
 obtain ⟨_, _, h⟩ := join_spec a b ha hb
 have n1 := look_nn a ha.1.2 k
 have n2 := look_nn b hb.1.2 k
 unfold cr cw
 rw [h k]
 simp only
 omega
theorem cr_ans (k j : Int) (right : Bool) : cr [ans k right] j = (if k = j ∧ right = true then 1 else 0) ∧ cw [ans k right] j = (if k = j ∧ right = false then 1 else 0) := by
 unfold cr cw
 rw [look_ans]
 by_cases h : k = j <;> cases right <;> simp [h, ans]
end Go.Proofs.Ytohnkcmbogcfhaa.R
namespace Go.Proofs.Ytohnkcmbogcfhaa.P
open Go.Proofs.YtohnkcmbogcfhaaH Go.RowKit Go.Proofs.YtohnkcmbogcfhaaW.PrintWords Go.Proofs.YtohnkcmbogcfhaaW.PrintLast Go.Proofs.YtohnkcmbogcfhaaW.PrintMore
attribute [local go_sem] max2_int min2_int max_two min_two max_three min_three max_four min_four   -- for this text's walks alone
attribute [local go_sem] Go.Proofs.YtohnkcmbogcfhaaH.cell_set_map
def rat_Sub.f (k : Nat) (a0_0 : Int) (a0_1 : Int) (a1_0 : Int) (a1_1 : Int) : Option (Int × Int × Int) := (rat_Add.f k a0_0 a0_1 (wrap64 (-a1_0)) a1_1).bind fun bt104 => (some (bt104.1, bt104.2.1, bt104.2.2))
theorem rat_Sub.mono : ∀ a0 a1 a2 a3 k, LeO (rat_Sub.f k a0 a1 a2 a3) (rat_Sub.f (k + 1) a0 a1 a2 a3) := by
 intro a0 a1 a2 a3 k
 unfold rat_Sub.f
 repeat' first
   | (with_reducible exact rat_Add.mono _ _ _ _ _)
   | (with_reducible exact LeO.refl _)
   | (with_reducible exact LeO.none _)
   | (with_reducible refine LeO.ite ?_ ?_)
   | (with_reducible refine LeO.bind ?_ (fun _ => ?_))
   | exact rat_Add.mono _ _ _ _ _
   | exact LeO.none _
   | refine LeO.ite ?_ ?_
   | refine LeO.bind ?_ (fun _ => ?_)
set_option maxHeartbeats 8000000 in
set_option maxRecDepth 100000 in
theorem rat_Sub.calls (k : Nat) (a0_0 : Int) (a0_1 : Int) (a1_0 : Int) (a1_1 : Int) (r1 : Int) (r2 : Int) (r3 : Int) (w : World) (h : rat_Sub.f k a0_0 a0_1 a1_0 a1_1 = some (r1, r2, r3)) :
  Calls Try.prog 48 #[.agg #[.int .i64 a0_0, .int .i64 a0_1], .agg #[.int .i64 a1_0, .int .i64 a1_1]] w fun e w' => e = .returned (.tuple #[.agg #[.int .i64 r1, .int .i64 r2], .int .i64 r3]) ∧ Below w.heap.size w w' := by
 have hu35 := Try.underlying35
 have HB := Aside0.mk (Below.refl w.heap.size w)
 have H : ((rat_Add.f k a0_0 a0_1 (wrap64 (-a1_0)) a1_1).bind fun bt104 => (some (bt104.1, bt104.2.1, bt104.2.2))) = some (r1, r2, r3) := h
 clear h
 replace H := Option.bind_eq_some_iff.mp H
 obtain ⟨⟨t104, t105, t106⟩, A30, H⟩ := H
 replace H : (some (t104, t105, t106)) = some (r1, r2, r3) := H
 have A3 := Aside0.mk A30
 clear A30
 simp only [Option.some.injEq, Prod.mk.injEq] at H
 obtain ⟨rfl, rfl, rfl⟩ := H
 go_enter Try.func48, Try.ntmps48
 go_wp2_with (first | ((with_reducible refine gate_dst (N := 2) rfl ?_); refine box_event ?hg (N := 2) ?hd (cs := #[.int .i64 a0_0, .int .i64 a0_1]) (t := 35) ?hr ?_; (case hd => rfl); (case hg => rfl); (case hr => first | (go_simp; done) | (go_simp; rfl)); intro gb101 hg w4 hbox hb; have n0_ := Aside0.mk (below_step (by repeat (first | (with_reducible first | exact HB.out | apply below_alloc | apply pw_below_drewN | apply below_drew1) | exact HB.out)) hb); have n1_ := Aside0.mk (hbox); have n2_ := Aside0.mk ((by rw [hg]; exact (below_size (by repeat (first | (with_reducible first | exact HB.out | apply below_alloc | apply pw_below_drewN | apply below_drew1) | exact HB.out))) : w.heap.size ≤ gb101)); have n3_ := Aside0.mk ((by rw [hg]; exact (below_size (by repeat (first | (with_reducible first | exact HB.out | apply below_alloc | apply pw_below_drewN | apply below_drew1) | exact HB.out))) : w.heap.size ≤ gb101)); clear HB; have HB := n0_; have BK101 := n1_; have GW101 := n2_; have GE101 := n3_; clear n0_ n1_ n2_ n3_; clear hb hbox hg) | ((with_reducible refine gate_dst (N := 3) rfl ?_); refine box_event ?hg (N := 3) ?hd (cs := #[.int .i64 a1_0, .int .i64 a1_1]) (t := 35) ?hr ?_; (case hd => rfl); (case hg => rfl); (case hr => first | (go_simp; done) | (go_simp; rfl)); intro gb102 hg w5 hbox hb; have n0_ := Aside0.mk (blk_below (g := gb101) (o := .cells #[.int .i64 a0_0, .int .i64 a0_1] 35 (0, 0)) (by (with_reducible repeat (first | refine blk_drewN ?_ _ | refine blk_drew ?_ | refine blk_alloc ?_ _)); exact BK101.out) hb); have n1_ := Aside0.mk (below_step (by repeat (first | (with_reducible first | exact HB.out | apply below_alloc | apply pw_below_drewN | apply below_drew1 | refine below_set ?_ GE101.out) | exact HB.out)) hb); have n2_ := Aside0.mk (hbox); have n3_ := Aside0.mk ((by rw [hg]; exact (below_size (by repeat (first | (with_reducible first | exact HB.out | apply below_alloc | apply pw_below_drewN | apply below_drew1 | refine below_set ?_ GE101.out) | exact HB.out))) : w.heap.size ≤ gb102)); have n4_ := Aside0.mk ((by rw [hg]; exact (below_size (by repeat (first | (with_reducible first | exact HB.out | apply below_alloc | apply pw_below_drewN | apply below_drew1 | refine below_set ?_ GE101.out) | exact HB.out))) : w.heap.size ≤ gb102)); have n5_ := Aside0.mk ((by rw [hg]; exact Nat.ne_of_lt (blk_lt (g := gb101) (o := .cells #[.int .i64 a0_0, .int .i64 a0_1] 35 (0, 0)) (by (with_reducible repeat (first | refine blk_drewN ?_ _ | refine blk_drew ?_ | refine blk_alloc ?_ _)); exact BK101.out)) : gb101 ≠ gb102)); have n6_ := Aside0.mk ((by rw [hg]; exact Nat.ne_of_gt (blk_lt (g := gb101) (o := .cells #[.int .i64 a0_0, .int .i64 a0_1] 35 (0, 0)) (by (with_reducible repeat (first | refine blk_drewN ?_ _ | refine blk_drew ?_ | refine blk_alloc ?_ _)); exact BK101.out)) : gb102 ≠ gb101)); clear BK101; clear HB; have BK101 := n0_; have HB := n1_; have BK102 := n2_; have GW102 := n3_; have GE102 := n4_; have NB101_102 := n5_; have NB102_101 := n6_; clear n0_ n1_ n2_ n3_ n4_ n5_ n6_; clear hb hbox hg) | ((with_reducible refine gate_dst (N := 4) rfl ?_); refine box_event ?hg (N := 4) ?hd (cs := #[.int .i64 0, .int .i64 0]) (t := 35) ?hr ?_; (case hd => rfl); (case hg => rfl); (case hr => first | (go_simp; done) | (go_simp; rfl)); intro gb103 hg w6 hbox hb; have n0_ := Aside0.mk (blk_below (g := gb101) (o := .cells #[.int .i64 a0_0, .int .i64 a0_1] 35 (0, 0)) (by (with_reducible repeat (first | refine blk_drewN ?_ _ | refine blk_drew ?_ | refine blk_alloc ?_ _)); exact BK101.out) hb); have n1_ := Aside0.mk (blk_below (g := gb102) (o := .cells #[.int .i64 a1_0, .int .i64 a1_1] 35 (0, 0)) (by (with_reducible repeat (first | refine blk_drewN ?_ _ | refine blk_drew ?_ | refine blk_alloc ?_ _)); exact BK102.out) hb); have n2_ := Aside0.mk (below_step (by repeat (first | (with_reducible first | exact HB.out | apply below_alloc | apply pw_below_drewN | apply below_drew1 | refine below_set ?_ GE101.out | refine below_set ?_ GE102.out) | exact HB.out)) hb); have n3_ := Aside0.mk (hbox); have n4_ := Aside0.mk ((by rw [hg]; exact (below_size (by repeat (first | (with_reducible first | exact HB.out | apply below_alloc | apply pw_below_drewN | apply below_drew1 | refine below_set ?_ GE101.out | refine below_set ?_ GE102.out) | exact HB.out))) : w.heap.size ≤ gb103)); have n5_ := Aside0.mk ((by rw [hg]; exact (below_size (by repeat (first | (with_reducible first | exact HB.out | apply below_alloc | apply pw_below_drewN | apply below_drew1 | refine below_set ?_ GE101.out | refine below_set ?_ GE102.out) | exact HB.out))) : w.heap.size ≤ gb103)); have n6_ := Aside0.mk ((by rw [hg]; exact Nat.ne_of_lt (blk_lt (g := gb101) (o := .cells #[.int .i64 a0_0, .int .i64 a0_1] 35 (0, 0)) (by (with_reducible repeat (first | refine blk_drewN ?_ _ | refine blk_drew ?_ | refine blk_alloc ?_ _)); exact BK101.out)) : gb101 ≠ gb103)); have n7_ := Aside0.mk ((by rw [hg]; exact Nat.ne_of_gt (blk_lt (g := gb101) (o := .cells #[.int .i64 a0_0, .int .i64 a0_1] 35 (0, 0)) (by (with_reducible repeat (first | refine blk_drewN ?_ _ | refine blk_drew ?_ | refine blk_alloc ?_ _)); exact BK101.out)) : gb103 ≠ gb101)); have n8_ := Aside0.mk ((by rw [hg]; exact Nat.ne_of_lt (blk_lt (g := gb102) (o := .cells #[.int .i64 a1_0, .int .i64 a1_1] 35 (0, 0)) (by (with_reducible repeat (first | refine blk_drewN ?_ _ | refine blk_drew ?_ | refine blk_alloc ?_ _)); exact BK102.out)) : gb102 ≠ gb103)); have n9_ := Aside0.mk ((by rw [hg]; exact Nat.ne_of_gt (blk_lt (g := gb102) (o := .cells #[.int .i64 a1_0, .int .i64 a1_1] 35 (0, 0)) (by (with_reducible repeat (first | refine blk_drewN ?_ _ | refine blk_drew ?_ | refine blk_alloc ?_ _)); exact BK102.out)) : gb103 ≠ gb102)); clear BK101; clear BK102; clear HB; have BK101 := n0_; have BK102 := n1_; have HB := n2_; have BK103 := n3_; have GW103 := n4_; have GE103 := n5_; have NB101_103 := n6_; have NB103_101 := n7_; have NB102_103 := n8_; have NB103_102 := n9_; clear n0_ n1_ n2_ n3_ n4_ n5_ n6_ n7_ n8_ n9_; clear hb hbox hg; have hnb7 := NB101_102.out; have hnc7 := NB102_101.out; have hnb8 := NB101_103.out; have hnc8 := NB103_101.out; have hcz9_0 : w6.cell? ⟨gb101, 0, none⟩ = some (.int .i64 a0_0) := (blk_cell BK101.out 0).trans rfl; have hcz9_1 : w6.cell? ⟨gb101, 1, none⟩ = some (.int .i64 a0_1) := (blk_cell BK101.out 1).trans rfl; have hfz9_0 := blk_frozen BK101.out 0; have hfz9_1 := blk_frozen BK101.out 1; have hnb10 := NB102_103.out; have hnc10 := NB103_102.out; have hcz11_0 : w6.cell? ⟨gb102, 0, none⟩ = some (.int .i64 a1_0) := (blk_cell BK102.out 0).trans rfl; have hcz11_1 : w6.cell? ⟨gb102, 1, none⟩ = some (.int .i64 a1_1) := (blk_cell BK102.out 1).trans rfl; have hfz11_0 := blk_frozen BK102.out 0; have hfz11_1 := blk_frozen BK102.out 1) | ((with_reducible refine gate_callee (f := 50) rfl ?_); refine goesL_ (some 13) rfl rfl Try.func50 (by kernel_rfl) rfl #[.agg #[.int .i64 a0_0, .int .i64 a0_1], .agg #[.int .i64 (wrap64 (-a1_0)), .int .i64 a1_1]] rfl (by (try simp only [List.map_toArray, List.map_cons, List.map_nil]); first | done | rfl | (simp only [List.length_drop, List.length_take]; rfl)) ?_; (with_reducible refine (rat_Add.calls k a0_0 a0_1 (wrap64 (-a1_0)) a1_1 t104 t105 t106 _ A3.out).mono ?_); rintro e w12 ⟨rfl, hb⟩; refine ⟨_, rfl, ?_⟩; have n0_ := Aside0.mk (blk_below (g := gb101) (o := .cells #[.int .i64 a0_0, .int .i64 a0_1] 35 (0, 0)) (by (with_reducible repeat (first | refine blk_drewN ?_ _ | refine blk_drew ?_ | refine blk_alloc ?_ _)); exact BK101.out) hb); have n1_ := Aside0.mk (blk_below (g := gb102) (o := .cells #[.int .i64 a1_0, .int .i64 a1_1] 35 (0, 0)) (by (with_reducible repeat (first | refine blk_drewN ?_ _ | refine blk_drew ?_ | refine blk_alloc ?_ _)); exact BK102.out) hb); have n2_ := Aside0.mk (blk_below (g := gb103) (o := .cells #[.int .i64 0, .int .i64 0] 35 (0, 0)) (by (with_reducible repeat (first | refine blk_drewN ?_ _ | refine blk_drew ?_ | refine blk_alloc ?_ _)); exact BK103.out) hb); have n3_ := Aside0.mk (below_step (by repeat (first | (with_reducible first | exact HB.out | apply below_alloc | apply pw_below_drewN | apply below_drew1 | refine below_set ?_ GE101.out | refine below_set ?_ GE102.out | refine below_set ?_ GE103.out) | exact HB.out)) hb); clear BK101; clear BK102; clear BK103; clear HB; have BK101 := n0_; have BK102 := n1_; have BK103 := n2_; have HB := n3_; clear n0_ n1_ n2_ n3_; (try clear hb); (try clear hb2); (try clear hk); (try clear hi); have hcz13_0 : w12.cell? ⟨gb103, 0, none⟩ = some (.int .i64 0) := (blk_cell BK103.out 0).trans rfl; have hcz13_1 : w12.cell? ⟨gb103, 1, none⟩ = some (.int .i64 0) := (blk_cell BK103.out 1).trans rfl; have hfz13_0 := blk_frozen BK103.out 0; have hfz13_1 := blk_frozen BK103.out 1))
 refine bodyPost_ret (results_ct rfl _ _ gb103 35 #[.int .i64 t104, .int .i64 t105] (0, 0) _ rfl (by (with_reducible repeat (first | refine blk_drewN ?_ _ | refine blk_drew ?_ | refine blk_alloc ?_ _)); refine blk_put (cs := #[.int .i64 t104, .int .i64 0]) ?_ 1 _ rfl; (with_reducible repeat (first | refine blk_drewN ?_ _ | refine blk_drew ?_ | refine blk_alloc ?_ _)); refine blk_put (cs := #[.int .i64 0, .int .i64 0]) ?_ 0 _ rfl; (with_reducible repeat (first | refine blk_drewN ?_ _ | refine blk_drew ?_ | refine blk_alloc ?_ _)); exact BK103.out) Try.underlying35 rfl (by kernel_rfl)) rfl ?_
 exact ⟨by first | rfl | (simp [errW_none, errW_some] <;> rfl) | (simp [*, errW_none, errW_some] <;> rfl), by repeat (first | (with_reducible first | exact HB.out | apply below_alloc | apply pw_below_drewN | apply below_drew1 | refine below_set ?_ GE101.out | refine below_set ?_ GE102.out | refine below_set ?_ GE103.out) | exact HB.out)⟩
end Go.Proofs.Ytohnkcmbogcfhaa.P
namespace Go.Proofs.Ytohnkcmbogcfhaa.P
open Go.Proofs.YtohnkcmbogcfhaaH Go.RowKit Go.Proofs.YtohnkcmbogcfhaaW.PrintWords Go.Proofs.YtohnkcmbogcfhaaW.PrintLast Go.Proofs.YtohnkcmbogcfhaaW.PrintMore
attribute [local go_sem] max2_int min2_int max_two min_two max_three min_three max_four min_four   -- for this text's walks alone
attribute [local go_sem] Go.Proofs.YtohnkcmbogcfhaaH.cell_set_map
def rat_Mul.j0 : Nat → Bool → Int → Int → Int → Int → Option (Int × Int × Int)
 | 0, _, _, _, _, _ => none
 | k + 1, x15, x102000, x102001, x103000, x103001 => if x15 = true then ((rat_zero.f).bind fun bt104 => (some (bt104.1, bt104.2.1, bt104.2.2))) else ((rat_abs.f x102000).bind fun t107 => ((rat_gcd.f k (([t107, IntKind.u64.wrap (x103001)] : List Int))).bind fun t111 => ((rat_abs.f x103000).bind fun t112 => ((rat_gcd.f k (([t112, IntKind.u64.wrap (x102001)] : List Int))).bind fun t116 => (if (wrap64 (t111)) = 0 then (none) else (if (wrap64 (t116)) = 0 then (none) else ((rat_times.f (wrap64 (Int.tdiv x102000 (wrap64 (t111)))) (wrap64 (Int.tdiv x103000 (wrap64 (t116))))).bind fun bt117 => ((rat_times.f (wrap64 (Int.tdiv x102001 (wrap64 (t116)))) (wrap64 (Int.tdiv x103001 (wrap64 (t111))))).bind fun bt120 => ((rat_made.f k bt117.1 bt117.2.1 bt117.2.2 bt120.1 bt120.2.1 bt120.2.2).bind fun bt123 => (some (bt123.1, bt123.2.1, bt123.2.2)))))))))))
def rat_Mul.f (k : Nat) (a0_0 : Int) (a0_1 : Int) (a1_0 : Int) (a1_1 : Int) : Option (Int × Int × Int) := if a0_0 = 0 then (rat_Mul.j0 k true a0_0 a0_1 a1_0 a1_1) else (rat_Mul.j0 k (a1_0 == 0) a0_0 a0_1 a1_0 a1_1)
theorem rat_Mul.mono_l : ∀ k, (∀ y0 y1 y2 y3 y4, LeO (rat_Mul.j0 k y0 y1 y2 y3 y4) (rat_Mul.j0 (k + 1) y0 y1 y2 y3 y4))
 | 0 => fun _ _ _ _ _ r h => by simp [rat_Mul.j0] at h
 | k + 1 => by
  have ih0 := rat_Mul.mono_l k
  ·intro y0 y1 y2 y3 y4
   unfold rat_Mul.j0
   repeat' first
   | (with_reducible exact ih0 _ _ _ _ _)
   | (with_reducible exact rat_gcd.mono _ _)
   | (with_reducible exact rat_made.mono _ _ _ _ _ _ _)
   | (with_reducible exact LeO.refl _)
   | (with_reducible exact LeO.none _)
   | (with_reducible refine LeO.ite ?_ ?_)
   | (with_reducible refine LeO.bind ?_ (fun _ => ?_))
   | exact ih0 _ _ _ _ _
   | exact rat_gcd.mono _ _
   | exact rat_made.mono _ _ _ _ _ _ _
   | exact LeO.none _
   | refine LeO.ite ?_ ?_
   | refine LeO.bind ?_ (fun _ => ?_)
theorem rat_Mul.mono : ∀ a0 a1 a2 a3 k, LeO (rat_Mul.f k a0 a1 a2 a3) (rat_Mul.f (k + 1) a0 a1 a2 a3) := by
 intro a0 a1 a2 a3 k
 have ih0 := rat_Mul.mono_l k
 unfold rat_Mul.f
 repeat' first
   | (with_reducible exact ih0 _ _ _ _ _)
   | (with_reducible exact rat_gcd.mono _ _)
   | (with_reducible exact rat_made.mono _ _ _ _ _ _ _)
   | (with_reducible exact LeO.refl _)
   | (with_reducible exact LeO.none _)
   | (with_reducible refine LeO.ite ?_ ?_)
   | (with_reducible refine LeO.bind ?_ (fun _ => ?_))
   | exact ih0 _ _ _ _ _
   | exact rat_gcd.mono _ _
   | exact rat_made.mono _ _ _ _ _ _ _
   | exact LeO.none _
   | refine LeO.ite ?_ ?_
   | refine LeO.bind ?_ (fun _ => ?_)
def rat_Mul.T3 : Bool × List (List Nat × List Nat) := (true, [([], []), ([0], [0]), ([1], [1]), ([], []), ([3], [3]), ([4], [4]), ([2, 5], [2, 5]), ([6, 2], [6]), ([7], [7]), ([], []), ([9], [9]), ([10, 7], [10]), ([], []), ([12], [12]), ([13], [13]), ([11, 14], [11, 14]), ([15, 11], [15]), ([16], [16]), ([8, 16, 0, 1, 2, 3, 4, 5, 6, 7, 8], [8]), ([17, 18, 0, 1, 2, 3, 4, 5, 6, 7, 8, 9, 10, 11, 12, 13, 14, 15, 16, 17, 18], [17])])
def rat_Mul.B3 : List Nat := [0, 1, 3, 0, 8, 24, 63, 127, 255, 0, 512, 1791, 0, 4096, 12288, 32511, 65279, 130815, 131071, 524287]
theorem rat_Mul.tab3 : rtab .any (opsOf Try.f49 3) = rat_Mul.T3 := by kernel_rfl
theorem rat_Mul.bits3 : waitsOk rat_Mul.T3.2 rat_Mul.B3 = true := by kernel_rfl
def rat_Mul.T4 : Bool × List (List Nat × List Nat) := (true, [([], []), ([0], [0]), ([], []), ([1, 2], [1, 2]), ([], []), ([4], [4]), ([], []), ([5, 6], [5, 6]), ([3, 7], [3, 7]), ([], []), ([9], [9]), ([], []), ([10, 11], [10, 11]), ([], []), ([13], [13]), ([], []), ([14, 15], [14, 15]), ([12, 16, 8], [12, 16]), ([8, 17, 17], [8, 17]), ([18], [18]), ([18], [18]), ([19, 18, 0, 1, 2, 3, 4, 5, 6, 7, 8, 9, 10, 11, 12, 13, 14, 15, 16, 17, 18, 19, 20], [19]), ([20, 21, 0, 1, 2, 3, 4, 5, 6, 7, 8, 9, 10, 11, 12, 13, 14, 15, 16, 17, 18, 19, 20, 21], [20])])
def rat_Mul.B4 : List Nat := [0, 1, 0, 7, 0, 16, 0, 112, 255, 0, 512, 0, 3584, 0, 8192, 0, 57344, 131071, 262143, 524287, 524287, 2097151, 4194303]
theorem rat_Mul.tab4 : rtab .any (opsOf Try.f49 4) = rat_Mul.T4 := by kernel_rfl
theorem rat_Mul.bits4 : waitsOk rat_Mul.T4.2 rat_Mul.B4 = true := by kernel_rfl
set_option maxHeartbeats 8000000 in
set_option maxRecDepth 100000 in
theorem rat_Mul.calls (k : Nat) (a0_0 : Int) (a0_1 : Int) (a1_0 : Int) (a1_1 : Int) (r1 : Int) (r2 : Int) (r3 : Int) (w : World) (h : rat_Mul.f k a0_0 a0_1 a1_0 a1_1 = some (r1, r2, r3)) :
  Calls Try.prog 49 #[.agg #[.int .i64 a0_0, .int .i64 a0_1], .agg #[.int .i64 a1_0, .int .i64 a1_1]] w fun e w' => e = .returned (.tuple #[.agg #[.int .i64 r1, .int .i64 r2], .int .i64 r3]) ∧ Below w.heap.size w w' := by
 have hu35 := Try.underlying35
 have HB := Aside0.mk (Below.refl w.heap.size w)
 have H : (if a0_0 = 0 then (rat_Mul.j0 k true a0_0 a0_1 a1_0 a1_1) else (rat_Mul.j0 k (a1_0 == 0) a0_0 a0_1 a1_0 a1_1)) = some (r1, r2, r3) := h
 clear h
 have HC3 := Aside0.mk H
 clear H
 go_enter Try.func49, Try.ntmps49
 go_upto_region 1 with (first | ((with_reducible refine gate_dst (N := 2) rfl ?_); refine box_event ?hg (N := 2) ?hd (cs := #[.int .i64 a0_0, .int .i64 a0_1]) (t := 35) ?hr ?_; (case hd => rfl); (case hg => rfl); (case hr => first | (go_simp; done) | (go_simp; rfl)); intro gb101 hg w4 hbox hb; have n0_ := Aside0.mk (below_step (by repeat (first | (with_reducible first | exact HB.out | apply below_alloc | apply pw_below_drewN | apply below_drew1) | exact HB.out)) hb); have n1_ := Aside0.mk (hbox); have n2_ := Aside0.mk ((by rw [hg]; exact (below_size (by repeat (first | (with_reducible first | exact HB.out | apply below_alloc | apply pw_below_drewN | apply below_drew1) | exact HB.out))) : w.heap.size ≤ gb101)); have n3_ := Aside0.mk ((by rw [hg]; exact (below_size (by repeat (first | (with_reducible first | exact HB.out | apply below_alloc | apply pw_below_drewN | apply below_drew1) | exact HB.out))) : w.heap.size ≤ gb101)); clear HB; have HB := n0_; have BK101 := n1_; have GW101 := n2_; have GE101 := n3_; clear n0_ n1_ n2_ n3_; clear hb hbox hg) | ((with_reducible refine gate_dst (N := 3) rfl ?_); refine box_event ?hg (N := 3) ?hd (cs := #[.int .i64 a1_0, .int .i64 a1_1]) (t := 35) ?hr ?_; (case hd => rfl); (case hg => rfl); (case hr => first | (go_simp; done) | (go_simp; rfl)); intro gb102 hg w5 hbox hb; have n0_ := Aside0.mk (blk_below (g := gb101) (o := .cells #[.int .i64 a0_0, .int .i64 a0_1] 35 (0, 0)) (by (with_reducible repeat (first | refine blk_drewN ?_ _ | refine blk_drew ?_ | refine blk_alloc ?_ _)); exact BK101.out) hb); have n1_ := Aside0.mk (below_step (by repeat (first | (with_reducible first | exact HB.out | apply below_alloc | apply pw_below_drewN | apply below_drew1 | refine below_set ?_ GE101.out) | exact HB.out)) hb); have n2_ := Aside0.mk (hbox); have n3_ := Aside0.mk ((by rw [hg]; exact (below_size (by repeat (first | (with_reducible first | exact HB.out | apply below_alloc | apply pw_below_drewN | apply below_drew1 | refine below_set ?_ GE101.out) | exact HB.out))) : w.heap.size ≤ gb102)); have n4_ := Aside0.mk ((by rw [hg]; exact (below_size (by repeat (first | (with_reducible first | exact HB.out | apply below_alloc | apply pw_below_drewN | apply below_drew1 | refine below_set ?_ GE101.out) | exact HB.out))) : w.heap.size ≤ gb102)); have n5_ := Aside0.mk ((by rw [hg]; exact Nat.ne_of_lt (blk_lt (g := gb101) (o := .cells #[.int .i64 a0_0, .int .i64 a0_1] 35 (0, 0)) (by (with_reducible repeat (first | refine blk_drewN ?_ _ | refine blk_drew ?_ | refine blk_alloc ?_ _)); exact BK101.out)) : gb101 ≠ gb102)); have n6_ := Aside0.mk ((by rw [hg]; exact Nat.ne_of_gt (blk_lt (g := gb101) (o := .cells #[.int .i64 a0_0, .int .i64 a0_1] 35 (0, 0)) (by (with_reducible repeat (first | refine blk_drewN ?_ _ | refine blk_drew ?_ | refine blk_alloc ?_ _)); exact BK101.out)) : gb102 ≠ gb101)); clear BK101; clear HB; have BK101 := n0_; have HB := n1_; have BK102 := n2_; have GW102 := n3_; have GE102 := n4_; have NB101_102 := n5_; have NB102_101 := n6_; clear n0_ n1_ n2_ n3_ n4_ n5_ n6_; clear hb hbox hg) | ((with_reducible refine gate_dst (N := 4) rfl ?_); refine box_event ?hg (N := 4) ?hd (cs := #[.int .i64 0, .int .i64 0]) (t := 35) ?hr ?_; (case hd => rfl); (case hg => rfl); (case hr => first | (go_simp; done) | (go_simp; rfl)); intro gb103 hg w6 hbox hb; have n0_ := Aside0.mk (blk_below (g := gb101) (o := .cells #[.int .i64 a0_0, .int .i64 a0_1] 35 (0, 0)) (by (with_reducible repeat (first | refine blk_drewN ?_ _ | refine blk_drew ?_ | refine blk_alloc ?_ _)); exact BK101.out) hb); have n1_ := Aside0.mk (blk_below (g := gb102) (o := .cells #[.int .i64 a1_0, .int .i64 a1_1] 35 (0, 0)) (by (with_reducible repeat (first | refine blk_drewN ?_ _ | refine blk_drew ?_ | refine blk_alloc ?_ _)); exact BK102.out) hb); have n2_ := Aside0.mk (below_step (by repeat (first | (with_reducible first | exact HB.out | apply below_alloc | apply pw_below_drewN | apply below_drew1 | refine below_set ?_ GE101.out | refine below_set ?_ GE102.out) | exact HB.out)) hb); have n3_ := Aside0.mk (hbox); have n4_ := Aside0.mk ((by rw [hg]; exact (below_size (by repeat (first | (with_reducible first | exact HB.out | apply below_alloc | apply pw_below_drewN | apply below_drew1 | refine below_set ?_ GE101.out | refine below_set ?_ GE102.out) | exact HB.out))) : w.heap.size ≤ gb103)); have n5_ := Aside0.mk ((by rw [hg]; exact (below_size (by repeat (first | (with_reducible first | exact HB.out | apply below_alloc | apply pw_below_drewN | apply below_drew1 | refine below_set ?_ GE101.out | refine below_set ?_ GE102.out) | exact HB.out))) : w.heap.size ≤ gb103)); have n6_ := Aside0.mk ((by rw [hg]; exact Nat.ne_of_lt (blk_lt (g := gb101) (o := .cells #[.int .i64 a0_0, .int .i64 a0_1] 35 (0, 0)) (by (with_reducible repeat (first | refine blk_drewN ?_ _ | refine blk_drew ?_ | refine blk_alloc ?_ _)); exact BK101.out)) : gb101 ≠ gb103)); have n7_ := Aside0.mk ((by rw [hg]; exact Nat.ne_of_gt (blk_lt (g := gb101) (o := .cells #[.int .i64 a0_0, .int .i64 a0_1] 35 (0, 0)) (by (with_reducible repeat (first | refine blk_drewN ?_ _ | refine blk_drew ?_ | refine blk_alloc ?_ _)); exact BK101.out)) : gb103 ≠ gb101)); have n8_ := Aside0.mk ((by rw [hg]; exact Nat.ne_of_lt (blk_lt (g := gb102) (o := .cells #[.int .i64 a1_0, .int .i64 a1_1] 35 (0, 0)) (by (with_reducible repeat (first | refine blk_drewN ?_ _ | refine blk_drew ?_ | refine blk_alloc ?_ _)); exact BK102.out)) : gb102 ≠ gb103)); have n9_ := Aside0.mk ((by rw [hg]; exact Nat.ne_of_gt (blk_lt (g := gb102) (o := .cells #[.int .i64 a1_0, .int .i64 a1_1] 35 (0, 0)) (by (with_reducible repeat (first | refine blk_drewN ?_ _ | refine blk_drew ?_ | refine blk_alloc ?_ _)); exact BK102.out)) : gb103 ≠ gb102)); clear BK101; clear BK102; clear HB; have BK101 := n0_; have BK102 := n1_; have HB := n2_; have BK103 := n3_; have GW103 := n4_; have GE103 := n5_; have NB101_103 := n6_; have NB103_101 := n7_; have NB102_103 := n8_; have NB103_102 := n9_; clear n0_ n1_ n2_ n3_ n4_ n5_ n6_ n7_ n8_ n9_; clear hb hbox hg))
 (try simp only [Act.put, List.setIfInBounds_toArray, List.set_cons_zero, List.set_cons_succ])
 go_cut [15] (fun v15 wc => ∃ (kq : Nat) (x15_2 : Bool), v15 = .bool x15_2 ∧ Aside0 (rat_Mul.j0 kq x15_2 a0_0 a0_1 a1_0 a1_1 = some (r1, r2, r3)) ∧ Aside0 (kq ≤ k) ∧ Aside0 (wc.heap[gb101]? = some (.cells #[.int .i64 a0_0, .int .i64 a0_1] 35 (0, 0))) ∧ Aside0 (wc.heap[gb102]? = some (.cells #[.int .i64 a1_0, .int .i64 a1_1] 35 (0, 0))) ∧ Aside0 (wc.heap[gb103]? = some (.cells #[.int .i64 0, .int .i64 0] 35 (0, 0))) ∧ Aside0 (Below w.heap.size w wc))
 case first =>
  have H := HC3.out
  clear HC3
  by_cases c7 : a0_0 = 0
  ·rw [if_pos c7] at H
   have c7b0 : (a0_0 == 0) = true := beq_iff_eq.mpr c7
   have c7b1 : (a0_0 != 0) = false := bne_eq_false_iff_eq.mpr c7
   clear c7
   (first | rw [c7b0] | (simp only [i64_w, i32_w]; rw [c7b0]) | skip)
   have H' := Aside0.mk H
   clear H
   have hnb8 := NB101_102.out
   have hnc8 := NB102_101.out
   have hnb9 := NB101_103.out
   have hnc9 := NB103_101.out
   have hcz10_0 : w6.cell? ⟨gb101, 0, none⟩ = some (.int .i64 a0_0) := (blk_cell BK101.out 0).trans rfl
   have hcz10_1 : w6.cell? ⟨gb101, 1, none⟩ = some (.int .i64 a0_1) := (blk_cell BK101.out 1).trans rfl
   have hfz10_0 := blk_frozen BK101.out 0
   have hfz10_1 := blk_frozen BK101.out 1
   go_wp2
   go_meet
   case rel => exact ⟨_, (true), (by first | rfl | (simp; done) | (simp [*]; done)), H', ⟨by first | omega | exact Nat.le_refl _⟩, ⟨by (with_reducible repeat (first | refine blk_drewN ?_ _ | refine blk_drew ?_ | refine blk_alloc ?_ _)); exact BK101.out⟩, ⟨by (with_reducible repeat (first | refine blk_drewN ?_ _ | refine blk_drew ?_ | refine blk_alloc ?_ _)); exact BK102.out⟩, ⟨by (with_reducible repeat (first | refine blk_drewN ?_ _ | refine blk_drew ?_ | refine blk_alloc ?_ _)); exact BK103.out⟩, ⟨by repeat (first | (with_reducible first | exact HB.out | apply below_alloc | apply pw_below_drewN | apply below_drew1 | refine below_set ?_ GE101.out | refine below_set ?_ GE102.out | refine below_set ?_ GE103.out) | exact HB.out)⟩⟩
  ·rw [if_neg c7] at H
   have c7b0 : (a0_0 == 0) = false := beq_eq_false_iff_ne.mpr c7
   have c7b1 : (a0_0 != 0) = true := bne_iff_ne.mpr c7
   (first | rw [c7b0] | (simp only [i64_w, i32_w]; rw [c7b0]) | skip)
   have H' := Aside0.mk H
   clear H
   have hnb11 := NB101_102.out
   have hnc11 := NB102_101.out
   have hnb12 := NB101_103.out
   have hnc12 := NB103_101.out
   have hcz13_0 : w6.cell? ⟨gb101, 0, none⟩ = some (.int .i64 a0_0) := (blk_cell BK101.out 0).trans rfl
   have hcz13_1 : w6.cell? ⟨gb101, 1, none⟩ = some (.int .i64 a0_1) := (blk_cell BK101.out 1).trans rfl
   have hfz13_0 := blk_frozen BK101.out 0
   have hfz13_1 := blk_frozen BK101.out 1
   have hnb14 := NB102_103.out
   have hnc14 := NB103_102.out
   have hcz15_0 : w6.cell? ⟨gb102, 0, none⟩ = some (.int .i64 a1_0) := (blk_cell BK102.out 0).trans rfl
   have hcz15_1 : w6.cell? ⟨gb102, 1, none⟩ = some (.int .i64 a1_1) := (blk_cell BK102.out 1).trans rfl
   have hfz15_0 := blk_frozen BK102.out 0
   have hfz15_1 := blk_frozen BK102.out 1
   go_wp2
   go_meet
   case rel => exact ⟨_, ((a1_0 == 0)), (by first | rfl | (simp; done) | (simp [*]; done)), H', ⟨by first | omega | exact Nat.le_refl _⟩, ⟨by (with_reducible repeat (first | refine blk_drewN ?_ _ | refine blk_drew ?_ | refine blk_alloc ?_ _)); exact BK101.out⟩, ⟨by (with_reducible repeat (first | refine blk_drewN ?_ _ | refine blk_drew ?_ | refine blk_alloc ?_ _)); exact BK102.out⟩, ⟨by (with_reducible repeat (first | refine blk_drewN ?_ _ | refine blk_drew ?_ | refine blk_alloc ?_ _)); exact BK103.out⟩, ⟨by repeat (first | (with_reducible first | exact HB.out | apply below_alloc | apply pw_below_drewN | apply below_drew1 | refine below_set ?_ GE101.out | refine below_set ?_ GE102.out | refine below_set ?_ GE103.out) | exact HB.out)⟩⟩
 case rest =>
  clear HC3
  try clear c1
  try clear p2
  try clear c4
  try clear c7
  try clear c7b0
  try clear c7b1
  try clear c8
  try clear c9
  try clear c11
  try clear c12
  try clear c14
  try clear hcz10_0
  try clear hcz10_1
  try clear hcz13_0
  try clear hcz13_1
  try clear hcz15_0
  try clear hcz15_1
  try clear hfz10_0
  try clear hfz10_1
  try clear hfz13_0
  try clear hfz13_1
  try clear hfz15_0
  try clear hfz15_1
  obtain ⟨kq, x15_2, rfl, HA, HJ2, BK101, BK102, BK103, HB⟩ := hcut
  cases kq with
  | zero => exact absurd HA.out (by simp [rat_Mul.j0])
  | succ kj2 =>
   have H := HA.out
   clear HA
   simp only [rat_Mul.j0] at H
   by_cases c16 : x15_2 = true
   ·subst c16
    have H1 : ((rat_zero.f).bind fun bt104 => (some (bt104.1, bt104.2.1, bt104.2.2))) = some (r1, r2, r3) := by rw [if_pos rfl] at H; exact H
    clear H
    have H := H1
    clear H1
    replace H := Option.bind_eq_some_iff.mp H
    obtain ⟨⟨t104, t105, t106⟩, A170, H⟩ := H
    replace H : (some (t104, t105, t106)) = some (r1, r2, r3) := H
    have A17 := Aside0.mk A170
    clear A170
    simp only [Option.some.injEq, Prod.mk.injEq] at H
    obtain ⟨rfl, rfl, rfl⟩ := H
    go_wp2_with (first | ((with_reducible refine gate_callee (f := 75) rfl ?_); refine goesL_ (some 16) rfl rfl Try.func75 (by kernel_rfl) rfl #[] rfl (by (try simp only [List.map_toArray, List.map_cons, List.map_nil]); first | done | rfl | (simp only [List.length_drop, List.length_take]; rfl)) ?_; (with_reducible refine (rat_zero.calls  t104 t105 t106 _ A17.out).mono ?_); rintro e w18 ⟨rfl, hb⟩; refine ⟨_, rfl, ?_⟩; have n0_ := Aside0.mk (blk_below (g := gb101) (o := .cells #[.int .i64 a0_0, .int .i64 a0_1] 35 (0, 0)) (by (with_reducible repeat (first | refine blk_drewN ?_ _ | refine blk_drew ?_ | refine blk_alloc ?_ _)); exact BK101.out) hb); have n1_ := Aside0.mk (blk_below (g := gb102) (o := .cells #[.int .i64 a1_0, .int .i64 a1_1] 35 (0, 0)) (by (with_reducible repeat (first | refine blk_drewN ?_ _ | refine blk_drew ?_ | refine blk_alloc ?_ _)); exact BK102.out) hb); have n2_ := Aside0.mk (blk_below (g := gb103) (o := .cells #[.int .i64 0, .int .i64 0] 35 (0, 0)) (by (with_reducible repeat (first | refine blk_drewN ?_ _ | refine blk_drew ?_ | refine blk_alloc ?_ _)); exact BK103.out) hb); have n3_ := Aside0.mk (below_step (by repeat (first | (with_reducible first | exact HB.out | apply below_alloc | apply pw_below_drewN | apply below_drew1 | refine below_set ?_ GE101.out | refine below_set ?_ GE102.out | refine below_set ?_ GE103.out) | exact HB.out)) hb); clear BK101; clear BK102; clear BK103; clear HB; have BK101 := n0_; have BK102 := n1_; have BK103 := n2_; have HB := n3_; clear n0_ n1_ n2_ n3_; (try clear hb); (try clear hb2); (try clear hk); (try clear hi); have hnb19 := NB103_101.out; have hnc19 := NB101_103.out; have hnb20 := NB103_102.out; have hnc20 := NB102_103.out; have hcz21_0 : w18.cell? ⟨gb103, 0, none⟩ = some (.int .i64 0) := (blk_cell BK103.out 0).trans rfl; have hcz21_1 : w18.cell? ⟨gb103, 1, none⟩ = some (.int .i64 0) := (blk_cell BK103.out 1).trans rfl; have hfz21_0 := blk_frozen BK103.out 0; have hfz21_1 := blk_frozen BK103.out 1))
    refine bodyPost_ret (results_ct rfl _ _ gb103 35 #[.int .i64 t104, .int .i64 t105] (0, 0) _ rfl (by (with_reducible repeat (first | refine blk_drewN ?_ _ | refine blk_drew ?_ | refine blk_alloc ?_ _)); refine blk_put (cs := #[.int .i64 t104, .int .i64 0]) ?_ 1 _ rfl; (with_reducible repeat (first | refine blk_drewN ?_ _ | refine blk_drew ?_ | refine blk_alloc ?_ _)); refine blk_put (cs := #[.int .i64 0, .int .i64 0]) ?_ 0 _ rfl; (with_reducible repeat (first | refine blk_drewN ?_ _ | refine blk_drew ?_ | refine blk_alloc ?_ _)); exact BK103.out) Try.underlying35 rfl (by kernel_rfl)) rfl ?_
    exact ⟨by first | rfl | (simp [errW_none, errW_some] <;> rfl) | (simp [*, errW_none, errW_some] <;> rfl), by repeat (first | (with_reducible first | exact HB.out | apply below_alloc | apply pw_below_drewN | apply below_drew1 | refine below_set ?_ GE101.out | refine below_set ?_ GE102.out | refine below_set ?_ GE103.out) | exact HB.out)⟩
   ·replace c16 := Bool.eq_false_iff.mpr c16
    subst c16
    have H1 : ((rat_abs.f a0_0).bind fun t107 => ((rat_gcd.f kj2 (([t107, IntKind.u64.wrap (a1_1)] : List Int))).bind fun t111 => ((rat_abs.f a1_0).bind fun t112 => ((rat_gcd.f kj2 (([t112, IntKind.u64.wrap (a0_1)] : List Int))).bind fun t116 => (if (wrap64 (t111)) = 0 then (none) else (if (wrap64 (t116)) = 0 then (none) else ((rat_times.f (wrap64 (Int.tdiv a0_0 (wrap64 (t111)))) (wrap64 (Int.tdiv a1_0 (wrap64 (t116))))).bind fun bt117 => ((rat_times.f (wrap64 (Int.tdiv a0_1 (wrap64 (t116)))) (wrap64 (Int.tdiv a1_1 (wrap64 (t111))))).bind fun bt120 => ((rat_made.f kj2 bt117.1 bt117.2.1 bt117.2.2 bt120.1 bt120.2.1 bt120.2.2).bind fun bt123 => (some (bt123.1, bt123.2.1, bt123.2.2))))))))))) = some (r1, r2, r3) := by rw [if_neg (show ¬ (false = true) by decide)] at H; exact H
    clear H
    have H := H1
    clear H1
    replace H := Option.bind_eq_some_iff.mp H
    obtain ⟨t107, A220, H⟩ := H
    replace H : ((rat_gcd.f kj2 (([t107, IntKind.u64.wrap (a1_1)] : List Int))).bind fun t111 => ((rat_abs.f a1_0).bind fun t112 => ((rat_gcd.f kj2 (([t112, IntKind.u64.wrap (a0_1)] : List Int))).bind fun t116 => (if (wrap64 (t111)) = 0 then (none) else (if (wrap64 (t116)) = 0 then (none) else ((rat_times.f (wrap64 (Int.tdiv a0_0 (wrap64 (t111)))) (wrap64 (Int.tdiv a1_0 (wrap64 (t116))))).bind fun bt117 => ((rat_times.f (wrap64 (Int.tdiv a0_1 (wrap64 (t116)))) (wrap64 (Int.tdiv a1_1 (wrap64 (t111))))).bind fun bt120 => ((rat_made.f kj2 bt117.1 bt117.2.1 bt117.2.2 bt120.1 bt120.2.1 bt120.2.2).bind fun bt123 => (some (bt123.1, bt123.2.1, bt123.2.2)))))))))) = some (r1, r2, r3) := H
    have A22 := Aside0.mk A220
    clear A220
    obtain ⟨y108, hy108⟩ : ∃ y_ : List Int, y_ = (([t107, IntKind.u64.wrap (a1_1)] : List Int)) := ⟨_, rfl⟩
    replace H : ((rat_gcd.f kj2 y108).bind fun t111 => ((rat_abs.f a1_0).bind fun t112 => ((rat_gcd.f kj2 (([t112, IntKind.u64.wrap (a0_1)] : List Int))).bind fun t116 => (if (wrap64 (t111)) = 0 then (none) else (if (wrap64 (t116)) = 0 then (none) else ((rat_times.f (wrap64 (Int.tdiv a0_0 (wrap64 (t111)))) (wrap64 (Int.tdiv a1_0 (wrap64 (t116))))).bind fun bt117 => ((rat_times.f (wrap64 (Int.tdiv a0_1 (wrap64 (t116)))) (wrap64 (Int.tdiv a1_1 (wrap64 (t111))))).bind fun bt120 => ((rat_made.f kj2 bt117.1 bt117.2.1 bt117.2.2 bt120.1 bt120.2.1 bt120.2.2).bind fun bt123 => (some (bt123.1, bt123.2.1, bt123.2.2)))))))))) = some (r1, r2, r3) := by first | (rw [hy108]; with_reducible exact H) | (have H2_ := (Option.bind_some _ _).symm.trans H; rw [hy108]; with_reducible exact H2_) | (have H2_ := (Option.bind_some _ _).symm.trans H; with_reducible exact H2_) | with_reducible exact H | (rw [hy108]; exact H) | exact H
    have Ny108 := Aside0.mk hy108
    clear hy108
    replace H := Option.bind_eq_some_iff.mp H
    obtain ⟨t111, A230, H⟩ := H
    replace H : ((rat_abs.f a1_0).bind fun t112 => ((rat_gcd.f kj2 (([t112, IntKind.u64.wrap (a0_1)] : List Int))).bind fun t116 => (if (wrap64 (t111)) = 0 then (none) else (if (wrap64 (t116)) = 0 then (none) else ((rat_times.f (wrap64 (Int.tdiv a0_0 (wrap64 (t111)))) (wrap64 (Int.tdiv a1_0 (wrap64 (t116))))).bind fun bt117 => ((rat_times.f (wrap64 (Int.tdiv a0_1 (wrap64 (t116)))) (wrap64 (Int.tdiv a1_1 (wrap64 (t111))))).bind fun bt120 => ((rat_made.f kj2 bt117.1 bt117.2.1 bt117.2.2 bt120.1 bt120.2.1 bt120.2.2).bind fun bt123 => (some (bt123.1, bt123.2.1, bt123.2.2))))))))) = some (r1, r2, r3) := H
    have A23 := Aside0.mk A230
    clear A230
    replace H := Option.bind_eq_some_iff.mp H
    obtain ⟨t112, A240, H⟩ := H
    replace H : ((rat_gcd.f kj2 (([t112, IntKind.u64.wrap (a0_1)] : List Int))).bind fun t116 => (if (wrap64 (t111)) = 0 then (none) else (if (wrap64 (t116)) = 0 then (none) else ((rat_times.f (wrap64 (Int.tdiv a0_0 (wrap64 (t111)))) (wrap64 (Int.tdiv a1_0 (wrap64 (t116))))).bind fun bt117 => ((rat_times.f (wrap64 (Int.tdiv a0_1 (wrap64 (t116)))) (wrap64 (Int.tdiv a1_1 (wrap64 (t111))))).bind fun bt120 => ((rat_made.f kj2 bt117.1 bt117.2.1 bt117.2.2 bt120.1 bt120.2.1 bt120.2.2).bind fun bt123 => (some (bt123.1, bt123.2.1, bt123.2.2)))))))) = some (r1, r2, r3) := H
    have A24 := Aside0.mk A240
    clear A240
    obtain ⟨y113, hy113⟩ : ∃ y_ : List Int, y_ = (([t112, IntKind.u64.wrap (a0_1)] : List Int)) := ⟨_, rfl⟩
    replace H : ((rat_gcd.f kj2 y113).bind fun t116 => (if (wrap64 (t111)) = 0 then (none) else (if (wrap64 (t116)) = 0 then (none) else ((rat_times.f (wrap64 (Int.tdiv a0_0 (wrap64 (t111)))) (wrap64 (Int.tdiv a1_0 (wrap64 (t116))))).bind fun bt117 => ((rat_times.f (wrap64 (Int.tdiv a0_1 (wrap64 (t116)))) (wrap64 (Int.tdiv a1_1 (wrap64 (t111))))).bind fun bt120 => ((rat_made.f kj2 bt117.1 bt117.2.1 bt117.2.2 bt120.1 bt120.2.1 bt120.2.2).bind fun bt123 => (some (bt123.1, bt123.2.1, bt123.2.2)))))))) = some (r1, r2, r3) := by first | (rw [hy113]; with_reducible exact H) | (have H2_ := (Option.bind_some _ _).symm.trans H; rw [hy113]; with_reducible exact H2_) | (have H2_ := (Option.bind_some _ _).symm.trans H; with_reducible exact H2_) | with_reducible exact H | (rw [hy113]; exact H) | exact H
    have Ny113 := Aside0.mk hy113
    clear hy113
    replace H := Option.bind_eq_some_iff.mp H
    obtain ⟨t116, A250, H⟩ := H
    replace H : (if (wrap64 (t111)) = 0 then (none) else (if (wrap64 (t116)) = 0 then (none) else ((rat_times.f (wrap64 (Int.tdiv a0_0 (wrap64 (t111)))) (wrap64 (Int.tdiv a1_0 (wrap64 (t116))))).bind fun bt117 => ((rat_times.f (wrap64 (Int.tdiv a0_1 (wrap64 (t116)))) (wrap64 (Int.tdiv a1_1 (wrap64 (t111))))).bind fun bt120 => ((rat_made.f kj2 bt117.1 bt117.2.1 bt117.2.2 bt120.1 bt120.2.1 bt120.2.2).bind fun bt123 => (some (bt123.1, bt123.2.1, bt123.2.2))))))) = some (r1, r2, r3) := H
    have A25 := Aside0.mk A250
    clear A250
    by_cases c26 : (wrap64 (t111)) = 0
    ·rw [if_pos c26] at H
     exact absurd H (by simp)
    ·rw [if_neg c26] at H
     have c26b0 : ((wrap64 (t111)) == 0) = false := beq_eq_false_iff_ne.mpr c26
     have c26b1 : ((wrap64 (t111)) != 0) = true := bne_iff_ne.mpr c26
     by_cases c27 : (wrap64 (t116)) = 0
     ·rw [if_pos c27] at H
      exact absurd H (by simp)
     ·rw [if_neg c27] at H
      have c27b0 : ((wrap64 (t116)) == 0) = false := beq_eq_false_iff_ne.mpr c27
      have c27b1 : ((wrap64 (t116)) != 0) = true := bne_iff_ne.mpr c27
      replace H := Option.bind_eq_some_iff.mp H
      obtain ⟨⟨t117, t118, t119⟩, A280, H⟩ := H
      replace H : ((rat_times.f (wrap64 (Int.tdiv a0_1 (wrap64 (t116)))) (wrap64 (Int.tdiv a1_1 (wrap64 (t111))))).bind fun bt120 => ((rat_made.f kj2 t117 t118 t119 bt120.1 bt120.2.1 bt120.2.2).bind fun bt123 => (some (bt123.1, bt123.2.1, bt123.2.2)))) = some (r1, r2, r3) := H
      have A28 := Aside0.mk A280
      clear A280
      replace H := Option.bind_eq_some_iff.mp H
      obtain ⟨⟨t120, t121, t122⟩, A290, H⟩ := H
      replace H : ((rat_made.f kj2 t117 t118 t119 t120 t121 t122).bind fun bt123 => (some (bt123.1, bt123.2.1, bt123.2.2))) = some (r1, r2, r3) := H
      have A29 := Aside0.mk A290
      clear A290
      replace H := Option.bind_eq_some_iff.mp H
      obtain ⟨⟨t123, t124, t125⟩, A300, H⟩ := H
      replace H : (some (t123, t124, t125)) = some (r1, r2, r3) := H
      have A30 := Aside0.mk A300
      clear A300
      simp only [Option.some.injEq, Prod.mk.injEq] at H
      obtain ⟨rfl, rfl, rfl⟩ := H
      try go_wp2
      have n0_ := Aside0.mk (blk_drew BK101.out)
      have n1_ := Aside0.mk (blk_drew BK102.out)
      have n2_ := Aside0.mk (blk_drew BK103.out)
      have n3_ := Aside0.mk (below_drew1 HB.out)
      clear BK101 BK102 BK103 HB; have BK101 := n0_; have BK102 := n1_; have BK103 := n2_; have HB := n3_; clear n0_ n1_ n2_ n3_
      refine start_ (n := 20) (S := fun w' => w'.cell? ⟨gb101, 0, none⟩ = some (.int .i64 a0_0) ∧ w'.cell? ⟨gb101, 1, none⟩ = some (.int .i64 a0_1) ∧ w'.cell? ⟨gb102, 0, none⟩ = some (.int .i64 a1_0) ∧ w'.cell? ⟨gb102, 1, none⟩ = some (.int .i64 a1_1)) (ds := []) #[false, false, false, false, false, false, false, false, false, false, false, false, false, false, false, false, false, false, false, false] (by kernel_rfl) rfl rfl ⟨(blk_cell BK101.out 0).trans rfl, (blk_cell BK101.out 1).trans rfl, (blk_cell BK102.out 0).trans rfl, (blk_cell BK102.out 1).trans rfl⟩ (fun hHeld => ?_); refine with_tabW rat_Mul.tab3 rat_Mul.bits3 (fun HT_ HW_ => ?_)
      generalize wc.drew = w31 at BK101 BK102 BK103 HB hHeld ⊢
      refine pX (i := 0) (N := some 19) rfl rfl HT_ ?_
      refine pX (i := 3) (N := some 22) rfl rfl HT_ ?_
      refine pX (i := 9) (N := some 28) rfl rfl HT_ ?_
      refine pX (i := 12) (N := some 31) rfl rfl HT_ ?_
      refine tX (i := 1) (N := some 20) rfl rfl HT_ HW_ hHeld (Or.inl ⟨by rfl, by rintro w' ⟨s0, s1, s2, s3⟩; go_simp; with_reducible rfl⟩) ?_
      refine tX (i := 4) (N := some 23) rfl rfl HT_ HW_ hHeld (Or.inl ⟨by rfl, by rintro w' ⟨s0, s1, s2, s3⟩; go_simp; with_reducible rfl⟩) ?_
      refine pX (i := 5) (N := some 24) rfl rfl HT_ ?_
      refine tX (i := 10) (N := some 29) rfl rfl HT_ HW_ hHeld (Or.inl ⟨by rfl, by rintro w' ⟨s0, s1, s2, s3⟩; go_simp; with_reducible rfl⟩) ?_
      refine tX (i := 13) (N := some 32) rfl rfl HT_ HW_ hHeld (Or.inl ⟨by rfl, by rintro w' ⟨s0, s1, s2, s3⟩; go_simp; with_reducible rfl⟩) ?_
      refine pX (i := 14) (N := some 33) rfl rfl HT_ ?_
      refine oX (i := 2) (N := some 21) rfl rfl HT_ (fun K hK => ?_)
      refine goes_ Try.func72 (by kernel_rfl) rfl #[.int .i64 a0_0] (by rfl) rfl rfl (by (try simp only [List.map_toArray, List.map_cons, List.map_nil]); first | done | rfl | (simp only [List.length_drop, List.length_take]; rfl)) ?_
      with_reducible refine (rat_abs.calls a0_0 t107 _ A22.out).mono ?_
      rintro e w' ⟨rfl, ⟨nd, rfl⟩⟩
      refine ⟨_, rfl, ?_⟩
      refine hK.out _ _ ⟨(blk_cell BK101.out 0).trans rfl, (blk_cell BK101.out 1).trans rfl, (blk_cell BK102.out 0).trans rfl, (blk_cell BK102.out 1).trans rfl⟩ (fun hHeld => ?_)
      clear hK K
      refine nX (some 21) ?_
      refine oX (i := 6) (N := some 25) rfl rfl HT_ (fun K hK => ?_)
      refine Kd.R_lit_step (Kd.int .u64) _ 119 ?hg (N := 25) ?hd (xs := ([t107, IntKind.u64.wrap (a1_1)] : List Int)) (inner := [.int .u64 t107, .int .u64 (IntKind.u64.wrap (a1_1))]) (ok := fun _ => True) (okp := fun _ => True) ?hr ?hp (fun _ hk => hk) trivial (Below.refl _ _) (Nat.le_refl _) (by simp) ?_; (case hd => rfl); (case hg => rfl); (case hr => first | (go_simp; done) | (go_simp; rfl)); (case hp => exact (Reps.one (show Kd.M (Kd.int .u64) _ _ _ t107 [.int .u64 t107] from rfl) (Reps.one (show Kd.M (Kd.int .u64) _ _ _ (IntKind.u64.wrap (a1_1)) [.int .u64 (IntKind.u64.wrap (a1_1))] from rfl) (Reps.none _ _))))
      intro v109 w32 ho33 hb hg_ hnew_
      clear hg_ hnew_
      (first | rw [← Ny108.out] at ho33 | (simp only [Int.reduceToNat] at ho33; rw [← Ny108.out] at ho33))
      have n0_ := Aside0.mk (Kd.R_lower ho33 (below_size (by repeat (first | (with_reducible first | exact HB.out | apply below_alloc | apply pw_below_drewN | apply below_drew1 | refine below_set ?_ GE101.out | refine below_set ?_ GE102.out | refine below_set ?_ GE103.out) | exact HB.out))))
      have n1_ := Aside0.mk (blk_below (g := gb101) (o := .cells #[.int .i64 a0_0, .int .i64 a0_1] 35 (0, 0)) (by (with_reducible repeat (first | refine blk_drewN ?_ _ | refine blk_drew ?_ | refine blk_alloc ?_ _)); exact BK101.out) hb)
      have n2_ := Aside0.mk (blk_below (g := gb102) (o := .cells #[.int .i64 a1_0, .int .i64 a1_1] 35 (0, 0)) (by (with_reducible repeat (first | refine blk_drewN ?_ _ | refine blk_drew ?_ | refine blk_alloc ?_ _)); exact BK102.out) hb)
      have n3_ := Aside0.mk (blk_below (g := gb103) (o := .cells #[.int .i64 0, .int .i64 0] 35 (0, 0)) (by (with_reducible repeat (first | refine blk_drewN ?_ _ | refine blk_drew ?_ | refine blk_alloc ?_ _)); exact BK103.out) hb)
      have n4_ := Aside0.mk (below_step (by repeat (first | (with_reducible first | exact HB.out | apply below_alloc | apply pw_below_drewN | apply below_drew1 | refine below_set ?_ GE101.out | refine below_set ?_ GE102.out | refine below_set ?_ GE103.out) | exact HB.out)) hb)
      clear BK101 BK102 BK103 HB; have HO110 := n0_; have BK101 := n1_; have BK102 := n2_; have BK103 := n3_; have HB := n4_; clear n0_ n1_ n2_ n3_ n4_ hb ho33
      obtain ⟨Ao34, co34, eo34⟩ := Kd.R_slice HO110.out
      (first | subst eo34 | (injection eo34 with f1_ f2_ f3_; have f4_ := f1_.symm; have f5_ := f3_.symm; clear f1_ f2_ f3_; subst f4_; subst f5_))
      refine hK.out _ _ ⟨(blk_cell BK101.out 0).trans rfl, (blk_cell BK101.out 1).trans rfl, (blk_cell BK102.out 0).trans rfl, (blk_cell BK102.out 1).trans rfl⟩ (fun hHeld => ?_)
      clear hK K
      refine nX (some 25) ?_
      refine oX (i := 7) (N := some 26) rfl rfl HT_ (fun K hK => ?_)
      refine goes_ Try.func71 (by kernel_rfl) rfl #[.slice Ao34 y108.length co34] (by rfl) rfl rfl (by (try simp only [List.map_toArray, List.map_cons, List.map_nil]); first | done | rfl | (simp only [List.length_drop, List.length_take]; rfl)) ?_
      with_reducible refine (rat_gcd.calls kj2 _ _ y108 t111 _ ?side1 ?side2 A23.out).mono ?_
      (case side1 => repeat (first | exact (Kd.R_reads' HO110.out).2.2 | (with_reducible refine Kd.C_alloc ?_ _) | (with_reducible refine Kd.C_drewN ?_ _) | (with_reducible refine Kd.C_drew ?_)))
      (case side2 => exact (Kd.R_reads' HO110.out).2.1)
      rintro e w' ⟨rfl, ⟨nd, rfl⟩⟩
      refine ⟨_, rfl, ?_⟩
      refine hK.out _ _ ⟨(blk_cell BK101.out 0).trans rfl, (blk_cell BK101.out 1).trans rfl, (blk_cell BK102.out 0).trans rfl, (blk_cell BK102.out 1).trans rfl⟩ (fun hHeld => ?_)
      clear hK K
      refine nX (some 26) ?_
      refine pX (i := 8) (N := some 27) rfl rfl HT_ ?_
      refine oX (i := 11) (N := some 30) rfl rfl HT_ (fun K hK => ?_)
      refine goes_ Try.func72 (by kernel_rfl) rfl #[.int .i64 a1_0] (by rfl) rfl rfl (by (try simp only [List.map_toArray, List.map_cons, List.map_nil]); first | done | rfl | (simp only [List.length_drop, List.length_take]; rfl)) ?_
      with_reducible refine (rat_abs.calls a1_0 t112 _ A24.out).mono ?_
      rintro e w' ⟨rfl, ⟨nd, rfl⟩⟩
      refine ⟨_, rfl, ?_⟩
      refine hK.out _ _ ⟨(blk_cell BK101.out 0).trans rfl, (blk_cell BK101.out 1).trans rfl, (blk_cell BK102.out 0).trans rfl, (blk_cell BK102.out 1).trans rfl⟩ (fun hHeld => ?_)
      clear hK K
      refine nX (some 30) ?_
      refine oX (i := 15) (N := some 34) rfl rfl HT_ (fun K hK => ?_)
      refine Kd.R_lit_step (Kd.int .u64) _ 119 ?hg (N := 34) ?hd (xs := ([t112, IntKind.u64.wrap (a0_1)] : List Int)) (inner := [.int .u64 t112, .int .u64 (IntKind.u64.wrap (a0_1))]) (ok := fun _ => True) (okp := fun _ => True) ?hr ?hp (fun _ hk => hk) trivial (Below.refl _ _) (Nat.le_refl _) (by simp) ?_; (case hd => rfl); (case hg => rfl); (case hr => first | (go_simp; done) | (go_simp; rfl)); (case hp => exact (Reps.one (show Kd.M (Kd.int .u64) _ _ _ t112 [.int .u64 t112] from rfl) (Reps.one (show Kd.M (Kd.int .u64) _ _ _ (IntKind.u64.wrap (a0_1)) [.int .u64 (IntKind.u64.wrap (a0_1))] from rfl) (Reps.none _ _))))
      intro v114 w35 ho36 hb hg_ hnew_
      clear hg_ hnew_
      (first | rw [← Ny113.out] at ho36 | (simp only [Int.reduceToNat] at ho36; rw [← Ny113.out] at ho36))
      have n0_ := Aside0.mk (Kd.R_elder' (by (with_reducible repeat (first | apply Kd.R_alloc | apply Kd.R_drewN | apply Kd.R_drew)); exact HO110.out) (Kd.R_base ho36) hb)
      have n1_ := Aside0.mk (Kd.R_lower (Kd.R_new' ho36 (Kd.R_lt (by (with_reducible repeat (first | apply Kd.R_alloc | apply Kd.R_drewN | apply Kd.R_drew)); exact HO110.out))) (below_size (by repeat (first | (with_reducible first | exact HB.out | apply below_alloc | apply pw_below_drewN | apply below_drew1 | refine below_set ?_ GE101.out | refine below_set ?_ GE102.out | refine below_set ?_ GE103.out) | exact HB.out))))
      have n2_ := Aside0.mk (blk_below (g := gb101) (o := .cells #[.int .i64 a0_0, .int .i64 a0_1] 35 (0, 0)) (by (with_reducible repeat (first | refine blk_drewN ?_ _ | refine blk_drew ?_ | refine blk_alloc ?_ _)); exact BK101.out) hb)
      have n3_ := Aside0.mk (blk_below (g := gb102) (o := .cells #[.int .i64 a1_0, .int .i64 a1_1] 35 (0, 0)) (by (with_reducible repeat (first | refine blk_drewN ?_ _ | refine blk_drew ?_ | refine blk_alloc ?_ _)); exact BK102.out) hb)
      have n4_ := Aside0.mk (blk_below (g := gb103) (o := .cells #[.int .i64 0, .int .i64 0] 35 (0, 0)) (by (with_reducible repeat (first | refine blk_drewN ?_ _ | refine blk_drew ?_ | refine blk_alloc ?_ _)); exact BK103.out) hb)
      have n5_ := Aside0.mk (below_step (by repeat (first | (with_reducible first | exact HB.out | apply below_alloc | apply pw_below_drewN | apply below_drew1 | refine below_set ?_ GE101.out | refine below_set ?_ GE102.out | refine below_set ?_ GE103.out) | exact HB.out)) hb)
      clear HO110 BK101 BK102 BK103 HB; have HO110 := n0_; have HO115 := n1_; have BK101 := n2_; have BK102 := n3_; have BK103 := n4_; have HB := n5_; clear n0_ n1_ n2_ n3_ n4_ n5_ hb ho36
      obtain ⟨Ao37, co37, eo37⟩ := Kd.R_slice HO115.out
      (first | subst eo37 | (injection eo37 with f1_ f2_ f3_; have f4_ := f1_.symm; have f5_ := f3_.symm; clear f1_ f2_ f3_; subst f4_; subst f5_))
      refine hK.out _ _ ⟨(blk_cell BK101.out 0).trans rfl, (blk_cell BK101.out 1).trans rfl, (blk_cell BK102.out 0).trans rfl, (blk_cell BK102.out 1).trans rfl⟩ (fun hHeld => ?_)
      clear hK K
      refine nX (some 34) ?_
      refine oX (i := 16) (N := some 35) rfl rfl HT_ (fun K hK => ?_)
      refine goes_ Try.func71 (by kernel_rfl) rfl #[.slice Ao37 y113.length co37] (by rfl) rfl rfl (by (try simp only [List.map_toArray, List.map_cons, List.map_nil]); first | done | rfl | (simp only [List.length_drop, List.length_take]; rfl)) ?_
      with_reducible refine (rat_gcd.calls kj2 _ _ y113 t116 _ ?side1 ?side2 A25.out).mono ?_
      (case side1 => repeat (first | exact (Kd.R_reads' HO115.out).2.2 | (with_reducible refine Kd.C_alloc ?_ _) | (with_reducible refine Kd.C_drewN ?_ _) | (with_reducible refine Kd.C_drew ?_)))
      (case side2 => exact (Kd.R_reads' HO115.out).2.1)
      rintro e w' ⟨rfl, ⟨nd, rfl⟩⟩
      refine ⟨_, rfl, ?_⟩
      refine hK.out _ _ ⟨(blk_cell BK101.out 0).trans rfl, (blk_cell BK101.out 1).trans rfl, (blk_cell BK102.out 0).trans rfl, (blk_cell BK102.out 1).trans rfl⟩ (fun hHeld => ?_)
      clear hK K
      refine nX (some 35) ?_
      refine pX (i := 17) (N := some 36) rfl rfl HT_ ?_
      refine pX (i := 18) (N := some 6) rfl rfl HT_ ?_
      refine pX (i := 19) (N := some 7) rfl rfl HT_ ?_
      refine done_ (done_of HT_.out (by kernel_rfl)) ?_
      try go_wp2
      (try (rw [drewN_self w35]; generalize hq_ : World.drewN w35 _ = w35; have n0_ : Aside0 (Kd.R (Kd.int .u64) 119 w35 w.heap.size (fun k_ => some k_ ≠ (.slice Ao37 y113.length co37 : Value).ownBlock) (.slice Ao34 y108.length co34) y108) := ⟨by rw [← hq_]; exact (by (with_reducible repeat (first | apply Kd.R_alloc | apply Kd.R_drewN | apply Kd.R_drew)); exact Kd.R_mono HO110.out (fun _ hk => hk.2))⟩; have n1_ : Aside0 (Kd.R (Kd.int .u64) 119 w35 w.heap.size (fun k_ => some k_ ≠ (.slice Ao34 y108.length co34 : Value).ownBlock) (.slice Ao37 y113.length co37) y113) := ⟨by rw [← hq_]; exact (by (with_reducible repeat (first | apply Kd.R_alloc | apply Kd.R_drewN | apply Kd.R_drew)); exact Kd.R_mono HO115.out (fun _ hk => hk.2))⟩; have n2_ : Aside0 (w35.heap[gb101]? = some (.cells #[.int .i64 a0_0, .int .i64 a0_1] 35 (0, 0))) := ⟨by rw [← hq_]; exact (by (with_reducible repeat (first | refine blk_drewN ?_ _ | refine blk_drew ?_ | refine blk_alloc ?_ _)); exact BK101.out)⟩; have n3_ : Aside0 (w35.heap[gb102]? = some (.cells #[.int .i64 a1_0, .int .i64 a1_1] 35 (0, 0))) := ⟨by rw [← hq_]; exact (by (with_reducible repeat (first | refine blk_drewN ?_ _ | refine blk_drew ?_ | refine blk_alloc ?_ _)); exact BK102.out)⟩; have n4_ : Aside0 (w35.heap[gb103]? = some (.cells #[.int .i64 0, .int .i64 0] 35 (0, 0))) := ⟨by rw [← hq_]; exact (by (with_reducible repeat (first | refine blk_drewN ?_ _ | refine blk_drew ?_ | refine blk_alloc ?_ _)); exact BK103.out)⟩; have n5_ : Aside0 (Below w.heap.size w w35) := ⟨by rw [← hq_]; exact (by repeat (first | (with_reducible first | exact HB.out | apply below_alloc | apply pw_below_drewN | apply below_drew1 | refine below_set ?_ GE101.out | refine below_set ?_ GE102.out | refine below_set ?_ GE103.out) | exact HB.out))⟩; clear HO110 HO115 BK101 BK102 BK103 HB hq_; have HO110 := n0_; have HO115 := n1_; have BK101 := n2_; have BK102 := n3_; have BK103 := n4_; have HB := n5_; clear n0_ n1_ n2_ n3_ n4_ n5_))
      have n0_ := Aside0.mk (Kd.R_drew HO110.out)
      have n1_ := Aside0.mk (Kd.R_drew HO115.out)
      have n2_ := Aside0.mk (blk_drew BK101.out)
      have n3_ := Aside0.mk (blk_drew BK102.out)
      have n4_ := Aside0.mk (blk_drew BK103.out)
      have n5_ := Aside0.mk (below_drew1 HB.out)
      clear HO110 HO115 BK101 BK102 BK103 HB; have HO110 := n0_; have HO115 := n1_; have BK101 := n2_; have BK102 := n3_; have BK103 := n4_; have HB := n5_; clear n0_ n1_ n2_ n3_ n4_ n5_
      refine start_ (n := 23) (S := fun w' => w'.cell? ⟨gb101, 0, none⟩ = some (.int .i64 a0_0) ∧ w'.cell? ⟨gb101, 1, none⟩ = some (.int .i64 a0_1) ∧ w'.cell? ⟨gb102, 0, none⟩ = some (.int .i64 a1_0) ∧ w'.cell? ⟨gb102, 1, none⟩ = some (.int .i64 a1_1)) (ds := []) #[false, false, false, false, false, false, false, false, false, false, false, false, false, false, false, false, false, false, false, false, false, false, false] (by kernel_rfl) rfl rfl ⟨(blk_cell BK101.out 0).trans rfl, (blk_cell BK101.out 1).trans rfl, (blk_cell BK102.out 0).trans rfl, (blk_cell BK102.out 1).trans rfl⟩ (fun hHeld => ?_); refine with_tabW rat_Mul.tab4 rat_Mul.bits4 (fun HT_ HW_ => ?_)
      generalize w35.drew = w38 at HO110 HO115 BK101 BK102 BK103 HB hHeld ⊢
      refine pX (i := 0) (N := some 37) rfl rfl HT_ ?_
      refine pX (i := 2) (N := some 39) rfl rfl HT_ ?_
      refine pX (i := 4) (N := some 41) rfl rfl HT_ ?_
      refine pX (i := 6) (N := some 43) rfl rfl HT_ ?_
      refine pX (i := 9) (N := some 46) rfl rfl HT_ ?_
      refine pX (i := 11) (N := some 48) rfl rfl HT_ ?_
      refine pX (i := 13) (N := some 50) rfl rfl HT_ ?_
      refine pX (i := 15) (N := some 52) rfl rfl HT_ ?_
      refine tX (i := 1) (N := some 38) rfl rfl HT_ HW_ hHeld (Or.inl ⟨by rfl, by rintro w' ⟨s0, s1, s2, s3⟩; go_simp; with_reducible rfl⟩) ?_
      refine pX (i := 3) (N := some 40) rfl rfl HT_ ?_
      refine tX (i := 5) (N := some 42) rfl rfl HT_ HW_ hHeld (Or.inl ⟨by rfl, by rintro w' ⟨s0, s1, s2, s3⟩; go_simp; with_reducible rfl⟩) ?_
      refine pX (i := 7) (N := some 44) rfl rfl HT_ ?_
      refine tX (i := 10) (N := some 47) rfl rfl HT_ HW_ hHeld (Or.inl ⟨by rfl, by rintro w' ⟨s0, s1, s2, s3⟩; go_simp; with_reducible rfl⟩) ?_
      refine pX (i := 12) (N := some 49) rfl rfl HT_ ?_
      refine tX (i := 14) (N := some 51) rfl rfl HT_ HW_ hHeld (Or.inl ⟨by rfl, by rintro w' ⟨s0, s1, s2, s3⟩; go_simp; with_reducible rfl⟩) ?_
      refine pX (i := 16) (N := some 53) rfl rfl HT_ ?_
      refine oX (i := 8) (N := some 45) rfl rfl HT_ (fun K hK => ?_)
      refine goes_ Try.func73 (by kernel_rfl) rfl #[.int .i64 (wrap64 (Int.tdiv a0_0 (wrap64 (t111)))), .int .i64 (wrap64 (Int.tdiv a1_0 (wrap64 (t116))))] (by rfl) rfl rfl (by (try simp only [List.map_toArray, List.map_cons, List.map_nil]); first | done | rfl | (simp only [List.length_drop, List.length_take]; rfl)) ?_
      with_reducible refine (rat_times.calls (wrap64 (Int.tdiv a0_0 (wrap64 (t111)))) (wrap64 (Int.tdiv a1_0 (wrap64 (t116)))) t117 t118 t119 _ A28.out).mono ?_
      rintro e w39 ⟨rfl, hb⟩
      refine ⟨_, rfl, ?_⟩
      have n0_ := Aside0.mk (Kd.R_below (by (with_reducible repeat (first | apply Kd.R_alloc | apply Kd.R_drewN | apply Kd.R_drew)); exact HO110.out) hb)
      have n1_ := Aside0.mk (Kd.R_below (by (with_reducible repeat (first | apply Kd.R_alloc | apply Kd.R_drewN | apply Kd.R_drew)); exact HO115.out) hb)
      have n2_ := Aside0.mk (blk_below (g := gb101) (o := .cells #[.int .i64 a0_0, .int .i64 a0_1] 35 (0, 0)) (by (with_reducible repeat (first | refine blk_drewN ?_ _ | refine blk_drew ?_ | refine blk_alloc ?_ _)); exact BK101.out) hb)
      have n3_ := Aside0.mk (blk_below (g := gb102) (o := .cells #[.int .i64 a1_0, .int .i64 a1_1] 35 (0, 0)) (by (with_reducible repeat (first | refine blk_drewN ?_ _ | refine blk_drew ?_ | refine blk_alloc ?_ _)); exact BK102.out) hb)
      have n4_ := Aside0.mk (blk_below (g := gb103) (o := .cells #[.int .i64 0, .int .i64 0] 35 (0, 0)) (by (with_reducible repeat (first | refine blk_drewN ?_ _ | refine blk_drew ?_ | refine blk_alloc ?_ _)); exact BK103.out) hb)
      have n5_ := Aside0.mk (below_step (by repeat (first | (with_reducible first | exact HB.out | apply below_alloc | apply pw_below_drewN | apply below_drew1 | refine below_set ?_ GE101.out | refine below_set ?_ GE102.out | refine below_set ?_ GE103.out) | exact HB.out)) hb)
      clear HO110 HO115 BK101 BK102 BK103 HB; have HO110 := n0_; have HO115 := n1_; have BK101 := n2_; have BK102 := n3_; have BK103 := n4_; have HB := n5_; clear n0_ n1_ n2_ n3_ n4_ n5_; (try clear hb); (try clear hb2); (try clear hk); (try clear hi)
      refine hK.out _ _ ⟨(blk_cell BK101.out 0).trans rfl, (blk_cell BK101.out 1).trans rfl, (blk_cell BK102.out 0).trans rfl, (blk_cell BK102.out 1).trans rfl⟩ (fun hHeld => ?_)
      clear hK K
      refine nX (some 45) ?_
      refine oX (i := 17) (N := some 54) rfl rfl HT_ (fun K hK => ?_)
      refine goes_ Try.func73 (by kernel_rfl) rfl #[.int .i64 (wrap64 (Int.tdiv a0_1 (wrap64 (t116)))), .int .i64 (wrap64 (Int.tdiv a1_1 (wrap64 (t111))))] (by rfl) rfl rfl (by (try simp only [List.map_toArray, List.map_cons, List.map_nil]); first | done | rfl | (simp only [List.length_drop, List.length_take]; rfl)) ?_
      with_reducible refine (rat_times.calls (wrap64 (Int.tdiv a0_1 (wrap64 (t116)))) (wrap64 (Int.tdiv a1_1 (wrap64 (t111)))) t120 t121 t122 _ A29.out).mono ?_
      rintro e w40 ⟨rfl, hb⟩
      refine ⟨_, rfl, ?_⟩
      have n0_ := Aside0.mk (Kd.R_below (by (with_reducible repeat (first | apply Kd.R_alloc | apply Kd.R_drewN | apply Kd.R_drew)); exact HO110.out) hb)
      have n1_ := Aside0.mk (Kd.R_below (by (with_reducible repeat (first | apply Kd.R_alloc | apply Kd.R_drewN | apply Kd.R_drew)); exact HO115.out) hb)
      have n2_ := Aside0.mk (blk_below (g := gb101) (o := .cells #[.int .i64 a0_0, .int .i64 a0_1] 35 (0, 0)) (by (with_reducible repeat (first | refine blk_drewN ?_ _ | refine blk_drew ?_ | refine blk_alloc ?_ _)); exact BK101.out) hb)
      have n3_ := Aside0.mk (blk_below (g := gb102) (o := .cells #[.int .i64 a1_0, .int .i64 a1_1] 35 (0, 0)) (by (with_reducible repeat (first | refine blk_drewN ?_ _ | refine blk_drew ?_ | refine blk_alloc ?_ _)); exact BK102.out) hb)
      have n4_ := Aside0.mk (blk_below (g := gb103) (o := .cells #[.int .i64 0, .int .i64 0] 35 (0, 0)) (by (with_reducible repeat (first | refine blk_drewN ?_ _ | refine blk_drew ?_ | refine blk_alloc ?_ _)); exact BK103.out) hb)
      have n5_ := Aside0.mk (below_step (by repeat (first | (with_reducible first | exact HB.out | apply below_alloc | apply pw_below_drewN | apply below_drew1 | refine below_set ?_ GE101.out | refine below_set ?_ GE102.out | refine below_set ?_ GE103.out) | exact HB.out)) hb)
      clear HO110 HO115 BK101 BK102 BK103 HB; have HO110 := n0_; have HO115 := n1_; have BK101 := n2_; have BK102 := n3_; have BK103 := n4_; have HB := n5_; clear n0_ n1_ n2_ n3_ n4_ n5_; (try clear hb); (try clear hb2); (try clear hk); (try clear hi)
      refine hK.out _ _ ⟨(blk_cell BK101.out 0).trans rfl, (blk_cell BK101.out 1).trans rfl, (blk_cell BK102.out 0).trans rfl, (blk_cell BK102.out 1).trans rfl⟩ (fun hHeld => ?_)
      clear hK K
      refine nX (some 54) ?_
      refine oX (i := 18) (N := some 55) rfl rfl HT_ (fun K hK => ?_)
      refine goes_ Try.func76 (by kernel_rfl) rfl #[.agg #[.bool t117, .int .u64 t118, .int .u64 t119], .agg #[.bool t120, .int .u64 t121, .int .u64 t122]] (by rfl) rfl rfl (by (try simp only [List.map_toArray, List.map_cons, List.map_nil]); first | done | rfl | (simp only [List.length_drop, List.length_take]; rfl)) ?_
      with_reducible refine (rat_made.calls kj2 t117 t118 t119 t120 t121 t122 t123 t124 t125 _ A30.out).mono ?_
      rintro e w41 ⟨rfl, hb⟩
      refine ⟨_, rfl, ?_⟩
      have n0_ := Aside0.mk (Kd.R_below (by (with_reducible repeat (first | apply Kd.R_alloc | apply Kd.R_drewN | apply Kd.R_drew)); exact HO110.out) hb)
      have n1_ := Aside0.mk (Kd.R_below (by (with_reducible repeat (first | apply Kd.R_alloc | apply Kd.R_drewN | apply Kd.R_drew)); exact HO115.out) hb)
      have n2_ := Aside0.mk (blk_below (g := gb101) (o := .cells #[.int .i64 a0_0, .int .i64 a0_1] 35 (0, 0)) (by (with_reducible repeat (first | refine blk_drewN ?_ _ | refine blk_drew ?_ | refine blk_alloc ?_ _)); exact BK101.out) hb)
      have n3_ := Aside0.mk (blk_below (g := gb102) (o := .cells #[.int .i64 a1_0, .int .i64 a1_1] 35 (0, 0)) (by (with_reducible repeat (first | refine blk_drewN ?_ _ | refine blk_drew ?_ | refine blk_alloc ?_ _)); exact BK102.out) hb)
      have n4_ := Aside0.mk (blk_below (g := gb103) (o := .cells #[.int .i64 0, .int .i64 0] 35 (0, 0)) (by (with_reducible repeat (first | refine blk_drewN ?_ _ | refine blk_drew ?_ | refine blk_alloc ?_ _)); exact BK103.out) hb)
      have n5_ := Aside0.mk (below_step (by repeat (first | (with_reducible first | exact HB.out | apply below_alloc | apply pw_below_drewN | apply below_drew1 | refine below_set ?_ GE101.out | refine below_set ?_ GE102.out | refine below_set ?_ GE103.out) | exact HB.out)) hb)
      clear HO110 HO115 BK101 BK102 BK103 HB; have HO110 := n0_; have HO115 := n1_; have BK101 := n2_; have BK102 := n3_; have BK103 := n4_; have HB := n5_; clear n0_ n1_ n2_ n3_ n4_ n5_; (try clear hb); (try clear hb2); (try clear hk); (try clear hi)
      refine hK.out _ _ ⟨(blk_cell BK101.out 0).trans rfl, (blk_cell BK101.out 1).trans rfl, (blk_cell BK102.out 0).trans rfl, (blk_cell BK102.out 1).trans rfl⟩ (fun hHeld => ?_)
      clear hK K
      refine nX (some 55) ?_
      refine pX (i := 19) (N := some 56) rfl rfl HT_ ?_
      refine pX (i := 20) (N := some 57) rfl rfl HT_ ?_
      refine oX (i := 21) (N := none) rfl rfl HT_ (fun K hK => ?_)
      have hs42 : w41.cell? ⟨gb103, 0, none⟩ = some (.int .i64 0) := (blk_cell BK103.out 0).trans rfl
      have hfs42 := blk_frozen BK103.out 0
      have hns42_0 := NB101_103.out
      have hns42_1 := NB102_103.out
      have hms42_0 := NB103_101.out
      have hms42_1 := NB103_102.out
      have hs43 : w41.cell? ⟨gb103, 1, none⟩ = some (.int .i64 0) := (blk_cell BK103.out 1).trans rfl
      have hfs43 := blk_frozen BK103.out 1
      have hns43_0 := NB101_103.out
      have hns43_1 := NB102_103.out
      have hms43_0 := NB103_101.out
      have hms43_1 := NB103_102.out
      refine skip_ (w1 := ?_) (by rfl) rfl ?_ ?_
      rotate_left
      ·go_simp
       rfl
      refine hK.out _ _ ⟨((cell_far (p := ⟨gb103, _, none⟩) NB101_103.out _).trans (((cell_far (p := ⟨gb103, _, none⟩) NB101_103.out _).trans (hHeld.1)))), ((cell_far (p := ⟨gb103, _, none⟩) NB101_103.out _).trans (((cell_far (p := ⟨gb103, _, none⟩) NB101_103.out _).trans (hHeld.2.1)))), ((cell_far (p := ⟨gb103, _, none⟩) NB102_103.out _).trans (((cell_far (p := ⟨gb103, _, none⟩) NB102_103.out _).trans (hHeld.2.2.1)))), ((cell_far (p := ⟨gb103, _, none⟩) NB102_103.out _).trans (((cell_far (p := ⟨gb103, _, none⟩) NB102_103.out _).trans (hHeld.2.2.2))))⟩ (fun hHeld => ?_)
      clear hK K
      refine pX (i := 22) (N := some 5) rfl rfl HT_ ?_
      refine done_ (done_of HT_.out (by kernel_rfl)) ?_
      try go_wp2
      refine bodyPost_ret (results_ct rfl _ _ gb103 35 #[.int .i64 t123, .int .i64 t124] (0, 0) _ rfl (by (with_reducible repeat (first | refine blk_drewN ?_ _ | refine blk_drew ?_ | refine blk_alloc ?_ _)); refine blk_put (cs := #[.int .i64 t123, .int .i64 0]) ?_ 1 _ rfl; (with_reducible repeat (first | refine blk_drewN ?_ _ | refine blk_drew ?_ | refine blk_alloc ?_ _)); refine blk_put (cs := #[.int .i64 0, .int .i64 0]) ?_ 0 _ rfl; (with_reducible repeat (first | refine blk_drewN ?_ _ | refine blk_drew ?_ | refine blk_alloc ?_ _)); exact BK103.out) Try.underlying35 rfl (by kernel_rfl)) rfl ?_
      exact ⟨by first | rfl | (simp [errW_none, errW_some] <;> rfl) | (simp [*, errW_none, errW_some] <;> rfl), by repeat (first | (with_reducible first | exact HB.out | apply below_alloc | apply pw_below_drewN | apply below_drew1 | refine below_set ?_ GE101.out | refine below_set ?_ GE102.out | refine below_set ?_ GE103.out) | exact HB.out)⟩
end Go.Proofs.Ytohnkcmbogcfhaa.P

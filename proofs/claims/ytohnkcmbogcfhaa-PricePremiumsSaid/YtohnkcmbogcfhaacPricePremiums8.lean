/- PricePremiums: a premium is from 0 to the loss, greater after one more right answer, less after one more wrong one. The plain law. -/
import Derived.Test.YtohnkcmbogcfhaacPricePremiums7
import Derived.Deep.Slices
import Derived.WideShapes
import Derived.OpenShut
import Derived.ShutString
import Derived.ChangeOld
import Derived.SizedLaws
import Derived.Deep.OwnRows
import Derived.Laws.Rows
import Derived.Test.YtohnkcmbogcfhaaRows
set_option linter.unusedVariables false
set_option linter.unusedSimpArgs false
namespace Go.Proofs.Ytohnkcmbogcfhaa.R
open Go.RowKit Go.Proofs.Ytohnkcmbogcfhaa.P Go.Proofs.YtohnkcmbogcfhaaW.PrintWords Go.Proofs.YtohnkcmbogcfhaaW.PrintLast Go.Proofs.YtohnkcmbogcfhaaW.PrintMore
theorem wrap64_of {n : Int} (h0 : -9223372036854775808 ≤ n) (h1 : n ≤ 9223372036854775807) : wrap64 n = n := by
 unfold wrap64
 omega
theorem u64_of {n : Int} (h0 : 0 ≤ n) (h1 : n ≤ 18446744073709551615) : IntKind.u64.wrap n = n := by
 unfold IntKind.wrap
 simp [IntKind.signed, IntKind.bits]
 omega
theorem u64_def (n : Int) : IntKind.u64.wrap n = n % 18446744073709551616 := by
 unfold IntKind.wrap
 simp [IntKind.signed, IntKind.bits]
theorem Ev.ite {α : Type} {c : Prop} [Decidable c] {g f : Nat → Option α} {r : α} (h : c → Ev g r) (k : ¬ c → Ev f r) : Ev (fun n => if c then g n else f n) r := by
 by_cases hc : c
 ·exact Ev.congr (fun _ => if_pos hc) (h hc)
 ·exact Ev.congr (fun _ => if_neg hc) (k hc)
theorem Ev.pos {α : Type} {c : Prop} [Decidable c] {g f : Nat → Option α} {r : α} (hc : c) (h : Ev g r) : Ev (fun n => if c then g n else f n) r := Ev.congr (fun _ => if_pos hc) h
theorem Ev.neg {α : Type} {c : Prop} [Decidable c] {g f : Nat → Option α} {r : α} (hc : ¬ c) (h : Ev f r) : Ev (fun n => if c then g n else f n) r := Ev.congr (fun _ => if_neg hc) h
theorem Ev.succ {α : Type} {g : Nat → Option α} {r : α} (h : Ev (fun k => g (k + 1)) r) : Ev g r := Ev.step (fun _ => rfl) h
theorem Ev.const {α : Type} {o : Option α} {r : α} (h : o = some r) : Ev (fun _ => o) r := ⟨0, fun _ _ => h⟩
theorem Ev.cbind {α β : Type} {o : Option α} {f : Nat → α → Option β} {a : α} {r : β} (h : o = some a) (k : Ev (fun n => f n a) r) : Ev (fun n => o.bind (f n)) r := Ev.bind (Ev.const h) k
theorem gcd_l1 (x10 : List Int) (x11 x12 : Int) : ∀ (b a : Nat) (r : Int), Ev (fun k => rat_gcd.l0 k (Nat.gcd a b : Int) x10 x11 (wrap64 (x12 + 1))) r → Ev (fun k => rat_gcd.l1 k (a : Int) (b : Int) x10 x11 x12) r := by
 intro b
 induction b using Nat.strongRecOn with
 | _ b ih =>
  intro a r h
  refine Ev.succ ?_
  simp only [rat_gcd.l1]
  by_cases hb : b = 0
  ·subst hb
   refine Ev.neg (by simp) ?_
   simpa using h
  ·refine Ev.pos (by omega) (Ev.neg (by omega) ?_)
   have e : Int.tmod (a : Int) (b : Int) = ((a % b : Nat) : Int) := rfl
   rw [e]
   refine ih (a % b) (Nat.mod_lt _ (by omega)) b r ?_
   rw [Nat.gcd_comm, ← Nat.gcd_rec, Nat.gcd_comm]
   exact h
theorem gcd2 (a b : Nat) : Ev (fun k => rat_gcd.f k [(a : Int), (b : Int)]) (Nat.gcd a b : Int) := by
 unfold rat_gcd.f
 refine Ev.pos (by simp) (Ev.pos (by simp) ?_)
 simp only [rd, List.drop, List.getD, List.length]
 refine Ev.succ ?_
 simp only [rat_gcd.l0]
 refine Ev.pos (by simp) (Ev.pos (by simp) (Ev.pos (by simp) ?_))
 refine gcd_l1 _ _ _ b a _ ?_
 refine Ev.succ ?_
 simp only [rat_gcd.l0]
 exact Ev.neg (by rw [wrap64_of (by omega) (by omega)]; simp) (Ev.now _)
theorem number_small (neg : Bool) (lo : Nat) (h : lo ≤ 4611686018427387904) : Ev (fun k => rat_wide_number.f k neg 0 (lo : Int)) (if neg then -(lo : Int) else (lo : Int), true) := by
 unfold rat_wide_number.f
 refine Ev.neg (by omega) (Ev.succ ?_)
 simp only [rat_wide_number.j0]
 refine Ev.neg (by simp; omega) ?_
 rw [wrap64_of (n := (lo : Int)) (by omega) (by omega), wrap64_of (n := -(lo : Int)) (by omega) (by omega)]
 cases neg <;> simp <;> exact Ev.now _
theorem made_small (neg : Bool) (a b : Nat) (ha : a ≤ 4611686018427387904) (hb : b ≤ 4611686018427387904) : Ev (fun k => rat_made.f k neg 0 (a : Int) false 0 (b : Int)) (if neg then -(a : Int) else (a : Int), (b : Int), 0) := by
 unfold rat_made.f
 refine Ev.bind (number_small neg a ha) (Ev.bind (number_small false b hb) ?_)
 exact Ev.pos rfl (Ev.pos rfl (Ev.now _))
/-- New of two numbers that are not negative. -/
theorem new_nat (n d : Nat) (hn : n ≤ 4611686018427387904) (hd : 0 < d) (hd2 : d ≤ 4611686018427387904) : Ev (fun k => rat_New.f k (n : Int) (d : Int)) (((n / Nat.gcd n d : Nat) : Int), ((d / Nat.gcd n d : Nat) : Int), 0) := by
 unfold rat_New.f
 refine Ev.neg (by omega) ?_
 by_cases h0 : n = 0
 ·subst h0
  refine Ev.pos (by simp) ?_
  simp only [rat_zero.f, Option.bind_some, Nat.gcd_zero_left, Nat.zero_div, Nat.div_self hd]
  exact Ev.now _
 ·refine Ev.neg (by omega) ?_
  have ea : ∀ m : Nat, m ≤ 4611686018427387904 → rat_abs.f (m : Int) = some (m : Int) := by
   intro m hm
   unfold rat_abs.f
   rw [if_neg (by omega), u64_of (by omega) (by omega)]
  have hg : 0 < Nat.gcd n d := Nat.gcd_pos_of_pos_right _ hd
  refine Ev.cbind (ea n hn) (Ev.cbind (ea d hd2) (Ev.bind (gcd2 n d) (Ev.cbind (ea n hn) (Ev.neg (by omega) (Ev.cbind (ea d hd2) ?_)))))
  have e1 : ∀ m : Nat, m ≤ 4611686018427387904 → IntKind.u64.wrap (Int.tdiv (m : Int) (Nat.gcd n d : Int)) = ((m / Nat.gcd n d : Nat) : Int) := by
   intro m hm
   have e : Int.tdiv (m : Int) (Nat.gcd n d : Int) = ((m / Nat.gcd n d : Nat) : Int) := rfl
   have h1 := Nat.div_le_self m (Nat.gcd n d)
   rw [e]
   generalize m / Nat.gcd n d = q at h1
   exact u64_of (by omega) (by omega)
  rw [e1 n hn, e1 d hd2]
  have e2 : (decide ((n : Int) < 0) != decide ((d : Int) < 0)) = false := by
   rw [decide_eq_false (by omega), decide_eq_false (by omega)]; rfl
  rw [e2]
  refine Ev.bind (made_small false _ _ (Nat.le_trans (Nat.div_le_self _ _) hn) (Nat.le_trans (Nat.div_le_self _ _) hd2)) ?_
  exact Ev.now _
end Go.Proofs.Ytohnkcmbogcfhaa.R
namespace Go.Proofs.Ytohnkcmbogcfhaa.R
open Go.RowKit Go.Proofs.Ytohnkcmbogcfhaa.P Go.Proofs.YtohnkcmbogcfhaaW.PrintWords Go.Proofs.YtohnkcmbogcfhaaW.PrintLast Go.Proofs.YtohnkcmbogcfhaaW.PrintMore
/-- The loss of a kind, of which the book has these counts. -/
def lossR (x y cost : Nat) : Int × Int × Int := ((((x + 1) * cost / Nat.gcd ((x + 1) * cost) (x + y + 2) : Nat) : Int), (((x + y + 2) / Nat.gcd ((x + 1) * cost) (x + y + 2) : Nat) : Int), 0)
theorem ev_Loss (l : List S71) (kind q : Int) (x y cost : Nat) (hof : odds_book_of.f l kind = some (q, (x : Int), (y : Int))) (hx : x ≤ 1073741824) (hy : y ≤ 1073741824) (hc : cost ≤ 1073741824) : Ev (fun k => odds_Loss.f k l kind (cost : Int)) (lossR x y cost) := by
 unfold odds_Loss.f
 refine Ev.neg (by omega) (Ev.succ ?_)
 simp only [odds_Loss.j0]
 refine Ev.neg (by simp; omega) (Ev.cbind hof ?_)
 have hm : (x + 1) * cost ≤ 1073741825 * 1073741824 := Nat.mul_le_mul (by omega) hc
 have e1 : wrap64 (wrap64 ((x : Int) + 1) * (cost : Int)) = (((x + 1) * cost : Nat) : Int) := by
  rw [wrap64_of (n := (x : Int) + 1) (by omega) (by omega)]
  have : ((x : Int) + 1) * (cost : Int) = (((x + 1) * cost : Nat) : Int) := by push_cast; rfl
  rw [this, wrap64_of (by omega) (by omega)]
 have e2 : wrap64 (wrap64 ((x : Int) + (y : Int)) + 2) = ((x + y + 2 : Nat) : Int) := by
  rw [wrap64_of (n := (x : Int) + (y : Int)) (by omega) (by omega), wrap64_of (by omega) (by omega)]
  omega
 simp only [e1, e2]
 exact Ev.bind (new_nat _ _ (by omega) (by omega) (by omega)) (Ev.now _)
end Go.Proofs.Ytohnkcmbogcfhaa.R
namespace Go.Proofs.Ytohnkcmbogcfhaa.R
open Go.RowKit Go.Proofs.Ytohnkcmbogcfhaa.P Go.Proofs.YtohnkcmbogcfhaaW.PrintWords Go.Proofs.YtohnkcmbogcfhaaW.PrintLast Go.Proofs.YtohnkcmbogcfhaaW.PrintMore
def Sorted (l : List S71) : Prop := l.Pairwise (fun x y => x.f0 < y.f0)
/-- An element of a book, but for the greatest count. -/
def okx (x : S71) : Prop := 1 ≤ x.f0 ∧ x.f0 ≤ 14 ∧ 0 ≤ x.f1 ∧ 0 ≤ x.f2
def small (x : S71) : Prop := x.f1 ≤ 1073741824 ∧ x.f2 ≤ 1073741824
def Pre (l : List S71) : Prop := Sorted l ∧ ∀ x ∈ l, okx x
/-- The counts of a kind. -/
def look (l : List S71) (k : Int) : S71 := (l.find? (fun x => x.f0 == k)).getD ⟨k, 0, 0⟩
def has (l : List S71) (k : Int) : Bool := l.any (fun x => x.f0 == k)
theorem look_cons (x : S71) (l : List S71) (k : Int) : look (x :: l) k = if x.f0 = k then x else look l k := by
 unfold look
 by_cases h : x.f0 = k <;> simp [h]
theorem has_cons (x : S71) (l : List S71) (k : Int) : has (x :: l) k = (x.f0 == k || has l k) := by simp [has]
theorem look_f0 (l : List S71) (k : Int) : (look l k).f0 = k := by
 induction l with
 | nil => rfl
 | cons x l ih =>
  rw [look_cons]
  split
  ·assumption
  ·exact ih
theorem look_not (l : List S71) (k : Int) (h : has l k = false) : look l k = ⟨k, 0, 0⟩ := by
 induction l with
 | nil => rfl
 | cons x l ih =>
  rw [has_cons, Bool.or_eq_false_iff] at h
  rw [look_cons, if_neg (by simpa using h.1), ih h.2]
theorem has_iff (l : List S71) (k : Int) : has l k = true ↔ ∃ x ∈ l, x.f0 = k := by simp [has]
theorem look_mem (l : List S71) (k : Int) (h : has l k = true) : look l k ∈ l := by
 induction l with
 | nil => simp [has] at h
 | cons x l ih =>
  rw [look_cons]
  split
  ·simp
  ·rename_i hne
   rw [has_cons] at h
   have : (x.f0 == k) = false := by simpa using hne
   rw [this, Bool.false_or] at h
   exact List.mem_cons_of_mem _ (ih h)
theorem look_of (l : List S71) (hs : Sorted l) (x : S71) (hx : x ∈ l) : look l x.f0 = x := by
 induction l with
 | nil => simp at hx
 | cons y l ih =>
  unfold Sorted at hs ih
  rw [List.pairwise_cons] at hs
  rw [look_cons]
  rcases List.mem_cons.1 hx with rfl | hx
  ·simp
  ·have := hs.1 x hx
   rw [if_neg (by omega)]
   exact ih hs.2 hx
theorem look_nn (l : List S71) (h : ∀ x ∈ l, okx x) (k : Int) : 0 ≤ (look l k).f1 ∧ 0 ≤ (look l k).f2 := by
 cases hk : has l k with
 | true => have := h _ (look_mem l k hk); unfold okx at this; omega
 | false => rw [look_not l k hk]; simp
theorem look_small (l : List S71) (h : ∀ x ∈ l, small x) (k : Int) : small (look l k) := by
 cases hk : has l k with
 | true => exact h _ (look_mem l k hk)
 | false => rw [look_not l k hk]; simp [small]
def Book (l : List S71) : Prop := Pre l ∧ ∀ x ∈ l, small x
theorem sorted_length (l : List S71) (h : Pre l) : l.length ≤ 14 := by
 have key : ∀ (l : List S71) (m : Int), Sorted l → (∀ x ∈ l, m ≤ x.f0 ∧ x.f0 ≤ 14) → m ≤ 15 → (l.length : Int) ≤ 15 - m := by
  intro l
  induction l with
  | nil => intro m _ _ hm; simp; omega
  | cons x l ih =>
   intro m hs hx hm
   unfold Sorted at hs
   rw [List.pairwise_cons] at hs
   have h0 := hx x (by simp)
   have := ih (x.f0 + 1) hs.2 (fun y hy => ⟨by have := hs.1 y hy; omega, (hx y (by simp [hy])).2⟩) (by omega)
   simp only [List.length_cons]
   omega
 have := key l 1 h.1 (fun x hx => by have := h.2 x hx; unfold okx at this; omega) (by omega)
 omega
/-- What the binary search finds. -/
theorem bsl_part (l : List S71) (t : Int) (n : Nat) (hp : ∀ i, i < n → wrap64 ((l.getD i z71).f0 - t) < 0) (hq : ∀ i, n ≤ i → i < l.length → ¬ wrap64 ((l.getD i z71).f0 - t) < 0) (hn : n ≤ l.length) :
  ∀ (m i j : Nat), i ≤ n → n ≤ j → j ≤ l.length → j - i ≤ m → bsl l t m i j = n := by
 intro m
 induction m with
 | zero => intro i j h1 h2 h3 h4; simp [bsl]; omega
 | succ m ih =>
  intro i j h1 h2 h3 h4
  unfold bsl
  by_cases hij : i < j
  ·rw [if_pos hij]
   by_cases hw : wrap64 ((l.getD ((i + j) / 2) z71).f0 - t) < 0
   ·rw [if_pos hw]
    have : (i + j) / 2 < n := by
     rcases Nat.lt_or_ge ((i + j) / 2) n with h | h
     ·exact h
     ·exact absurd hw (hq _ h (by omega))
    exact ih _ _ (by omega) h2 h3 (by omega)
   ·rw [if_neg hw]
    have : n ≤ (i + j) / 2 := by
     rcases Nat.lt_or_ge ((i + j) / 2) n with h | h
     ·exact absurd (hp _ h) hw
     ·exact h
    exact ih _ _ h1 this (by omega) (by omega)
  ·rw [if_neg hij]; omega
theorem of_spec (l : List S71) (hl : Pre l) (t : Int) (ht0 : -9223372036854775808 ≤ t) (ht1 : t ≤ 9223372036854775807) : odds_book_of.f l t = some ((look l t).f0, (look l t).f1, (look l t).f2) := by
 unfold odds_book_of.f
 have hlen := sorted_length l hl
 rw [if_pos (by omega)]
 have hk : ∀ i, i < l.length → 1 ≤ (l.getD i z71).f0 ∧ (l.getD i z71).f0 ≤ 14 := by
  intro i hi
  have hm : l.getD i z71 ∈ l := by simp [List.getD_eq_getElem?_getD, List.getElem?_eq_getElem hi]
  have := hl.2 _ hm
  unfold okx at this
  omega
 by_cases hok : bsOk l t = true
 ·rw [if_pos hok]
  have hlt := bsOk_lt hok
  unfold bsOk at hok
  simp only [Bool.and_eq_true, decide_eq_true_eq, beq_iff_eq] at hok
  have hm : l.getD (bsI l t) z71 ∈ l := by simp [List.getD_eq_getElem?_getD, List.getElem?_eq_getElem hlt]
  have he : (l.getD (bsI l t) z71).f0 = t := by
   have h1 := hok.2
   have h2 := hk _ hlt
   unfold wrap64 at h1
   omega
  have := look_of l hl.1 _ hm
  rw [he] at this
  rw [this]
 ·rw [if_neg hok]
  have hno : has l t = false := by
   cases hc : has l t with
   | false => rfl
   | true =>
    exfalso
    obtain ⟨x, hx, hxe⟩ := (has_iff l t).1 hc
    obtain ⟨n, hn, hnx⟩ := List.getElem_of_mem hx
    have hg : ∀ i (hi : i < l.length), l.getD i z71 = l[i] := fun i hi => by simp [List.getD_eq_getElem?_getD, List.getElem?_eq_getElem hi]
    have hpw := List.pairwise_iff_getElem.1 hl.1
    have hr := hk n hn
    rw [hg n hn, hnx, hxe] at hr
    have hbs : bsI l t = n := by
     refine bsl_part l t n (fun i hi => ?_) (fun i hi hil => ?_) (by omega) l.length 0 l.length (by omega) (by omega) (by omega) (by omega)
     ·have h1 := hpw i n (by omega) hn hi
      have h2 := hk i (by omega)
      rw [hg i (by omega)] at h2 ⊢
      rw [hnx, hxe] at h1
      unfold wrap64; omega
     ·have h2 := hk i hil
      rw [hg i hil] at h2 ⊢
      rcases Nat.eq_or_lt_of_le hi with rfl | hlt
      ·rw [hnx, hxe]; unfold wrap64; omega
      ·have h1 := hpw n i hn hil hlt
       rw [hnx, hxe] at h1
       unfold wrap64; omega
    refine hok ?_
    unfold bsOk
    rw [hbs, hg n hn, hnx, hxe]
    simp [hn, wrap64]
  rw [look_not l t hno]
end Go.Proofs.Ytohnkcmbogcfhaa.R
namespace Go.Proofs.Ytohnkcmbogcfhaa.R
open Go.RowKit Go.Proofs.Ytohnkcmbogcfhaa.P Go.Proofs.YtohnkcmbogcfhaaW.PrintWords Go.Proofs.YtohnkcmbogcfhaaW.PrintLast Go.Proofs.YtohnkcmbogcfhaaW.PrintMore
theorem u64_mask (x : Int) (h0 : 0 ≤ x) (h1 : x ≤ 18446744073709551615) : Go.bits .and .u64 x 4294967295 = x % 4294967296 :=
 bits_mask .u64 64 (by decide) (fun n h0 h1 => u64_of h0 (by omega)) 32 (by decide) x h0 (by omega)
theorem mul64 (a b : Nat) (ha : a ≤ 18446744073709551615) (hb : b ≤ 18446744073709551615) : bits_Mul64.f (a : Int) (b : Int) = some (((a * b / 18446744073709551616 : Nat) : Int), ((a * b % 18446744073709551616 : Nat) : Int)) := by
 obtain ⟨x1, hx1⟩ : ∃ x1, x1 = a / 4294967296 := ⟨_, rfl⟩
 obtain ⟨x0, hx0⟩ : ∃ x0, x0 = a % 4294967296 := ⟨_, rfl⟩
 obtain ⟨y1, hy1⟩ : ∃ y1, y1 = b / 4294967296 := ⟨_, rfl⟩
 obtain ⟨y0, hy0⟩ : ∃ y0, y0 = b % 4294967296 := ⟨_, rfl⟩
 have ea : a = x1 * 4294967296 + x0 := by omega
 have eb : b = y1 * 4294967296 + y0 := by omega
 have bx1 : x1 ≤ 4294967295 := by omega
 have bx0 : x0 ≤ 4294967295 := by omega
 have by1 : y1 ≤ 4294967295 := by omega
 have by0 : y0 ≤ 4294967295 := by omega
 have i1 : (a : Int) / 4294967296 = (x1 : Int) := by omega
 have i2 : (b : Int) / 4294967296 = (y1 : Int) := by omega
 have i3 : Go.bits .and .u64 (a : Int) 4294967295 = (x0 : Int) := by rw [u64_mask _ (by omega) (by omega)]; omega
 have i4 : Go.bits .and .u64 (b : Int) 4294967295 = (y0 : Int) := by rw [u64_mask _ (by omega) (by omega)]; omega
 have p11 : x1 * y1 ≤ 4294967295 * 4294967295 := Nat.mul_le_mul bx1 by1
 have p10 : x1 * y0 ≤ 4294967295 * 4294967295 := Nat.mul_le_mul bx1 by0
 have p01 : x0 * y1 ≤ 4294967295 * 4294967295 := Nat.mul_le_mul bx0 by1
 have p00 : x0 * y0 ≤ 4294967295 * 4294967295 := Nat.mul_le_mul bx0 by0
 have eab : a * b = (x1 * y1) * 18446744073709551616 + (x1 * y0 + x0 * y1) * 4294967296 + x0 * y0 := by
  rw [ea, eb]
  grind
 have c11 : (x1 : Int) * (y1 : Int) = ((x1 * y1 : Nat) : Int) := by push_cast; rfl
 have c10 : (x1 : Int) * (y0 : Int) = ((x1 * y0 : Nat) : Int) := by push_cast; rfl
 have c01 : (x0 : Int) * (y1 : Int) = ((x0 * y1 : Nat) : Int) := by push_cast; rfl
 have c00 : (x0 : Int) * (y0 : Int) = ((x0 * y0 : Nat) : Int) := by push_cast; rfl
 have cab : (a : Int) * (b : Int) = ((a * b : Nat) : Int) := by push_cast; rfl
 unfold bits_Mul64.f
 rw [i1, i2, i3, i4, c11, c10, c01, c00, cab]
 generalize x1 * y1 = P11 at *
 generalize x1 * y0 = P10 at *
 generalize x0 * y1 = P01 at *
 generalize x0 * y0 = P00 at *
 generalize a * b = AB at *
 have w00 : IntKind.u64.wrap (P00 : Int) = (P00 : Int) := u64_of (by omega) (by omega)
 have w11 : IntKind.u64.wrap (P11 : Int) = (P11 : Int) := u64_of (by omega) (by omega)
 have w10 : IntKind.u64.wrap (P10 : Int) = (P10 : Int) := u64_of (by omega) (by omega)
 have w01 : IntKind.u64.wrap (P01 : Int) = (P01 : Int) := u64_of (by omega) (by omega)
 rw [w00, w11, w10, w01]
 have wt : IntKind.u64.wrap ((P10 : Int) + (P00 : Int) / 4294967296) = ((P10 + P00 / 4294967296 : Nat) : Int) := by rw [u64_of (by omega) (by omega)]; omega
 rw [wt]
 obtain ⟨T, hT⟩ : ∃ T, T = P10 + P00 / 4294967296 := ⟨_, rfl⟩
 rw [← hT]
 rw [u64_mask (T : Int) (by omega) (by omega)]
 have ww : IntKind.u64.wrap ((T : Int) % 4294967296 + (P01 : Int)) = ((T % 4294967296 + P01 : Nat) : Int) := by rw [u64_of (by omega) (by omega)]; omega
 rw [ww]
 have wh : IntKind.u64.wrap ((P11 : Int) + (T : Int) / 4294967296) = ((P11 + T / 4294967296 : Nat) : Int) := by rw [u64_of (by omega) (by omega)]; omega
 rw [wh, u64_of (by omega) (by omega), u64_def]
 congr 1
 refine Prod.ext ?_ ?_
 ·simp only; omega
 ·simp only; omega
theorem abs_of (a : Int) (h0 : -9223372036854775808 ≤ a) (h1 : a ≤ 9223372036854775807) : rat_abs.f a = some (a.natAbs : Int) := by
 unfold rat_abs.f
 by_cases h : a < 0
 ·rw [if_pos h, u64_def, u64_def]
  congr 1
  omega
 ·rw [if_neg h, u64_of (by omega) (by omega)]
  congr 1
  omega
/-- A number of 128 bits: its upper and its lower half. -/
def hi (m : Nat) : Int := ((m / 18446744073709551616 : Nat) : Int)
def lo (m : Nat) : Int := ((m % 18446744073709551616 : Nat) : Int)
theorem times_of (a b : Int) (ha0 : -9223372036854775808 ≤ a) (ha1 : a ≤ 9223372036854775807) (hb0 : -9223372036854775808 ≤ b) (hb1 : b ≤ 9223372036854775807) :
  rat_times.f a b = some ((decide (a < 0) != decide (b < 0)), hi (a.natAbs * b.natAbs), lo (a.natAbs * b.natAbs)) := by
 unfold rat_times.f
 rw [abs_of a ha0 ha1, abs_of b hb0 hb1]
 simp only [Option.bind_some]
 rw [mul64 _ _ (by omega) (by omega)]
 rfl
theorem atLeast_of (s t : Bool) (m n : Nat) : rat_wide_atLeast.f s (hi m) (lo m) t (hi n) (lo n) = some (decide (n ≤ m)) := by
 unfold rat_wide_atLeast.f hi lo
 by_cases h1 : ((m / 18446744073709551616 : Nat) : Int) > ((n / 18446744073709551616 : Nat) : Int)
 ·rw [if_pos h1, decide_eq_true (by omega)]
 ·rw [if_neg h1]
  by_cases h2 : ((m / 18446744073709551616 : Nat) : Int) = ((n / 18446744073709551616 : Nat) : Int)
  ·rw [if_pos h2]
   congr 1
   rw [decide_eq_decide]
   omega
  ·rw [if_neg h2, decide_eq_false (by omega)]
theorem sub_of (m n : Nat) (hm : m < 340282366920938463463374607431768211456) (h : n ≤ m) :
  ∃ c, bits_Sub64.f (lo m) (lo n) 0 = some (lo (m - n), c) ∧ ∃ c', bits_Sub64.f (hi m) (hi n) c = some (hi (m - n), c') := by
 unfold bits_Sub64.f hi lo
 rw [if_pos (by omega)]
 refine ⟨if ((m % 18446744073709551616 : Nat) : Int) < ((n % 18446744073709551616 : Nat) : Int) + 0 then 1 else 0, ?_, ?_⟩
 ·refine congrArg some (Prod.ext ?_ rfl)
  simp only
  omega
 ·rw [if_pos (by split <;> omega)]
  generalize hc : (if ((m % 18446744073709551616 : Nat) : Int) < ((n % 18446744073709551616 : Nat) : Int) + 0 then (1 : Int) else 0) = c
  refine ⟨if ((m / 18446744073709551616 : Nat) : Int) < ((n / 18446744073709551616 : Nat) : Int) + c then 1 else 0, congrArg some (Prod.ext ?_ rfl)⟩
  simp only
  split at hc <;> omega
theorem plus_of (s t : Bool) (m n : Nat) (hm : m < 170141183460469231731687303715884105728) (hn : n < 170141183460469231731687303715884105728) :
  rat_wide_plus.f s (hi m) (lo m) t (hi n) (lo n) = some (if s = t then (s, hi (m + n), lo (m + n)) else if n ≤ m then (s, hi (m - n), lo (m - n)) else (t, hi (n - m), lo (n - m))) := by
 unfold rat_wide_plus.f
 by_cases hst : s = t
 ·subst hst
  rw [if_pos (by simp), if_pos rfl]
  unfold bits_Add64.f hi lo
  rw [if_pos (by omega)]
  simp only [Option.bind_some]
  rw [if_pos (by omega)]
  simp only [Option.bind_some]
  refine congrArg some (Prod.ext rfl (Prod.ext ?_ ?_))
  ·simp only; omega
  ·simp only; omega
 ·rw [if_neg (by simpa using hst), if_neg hst, atLeast_of]
  simp only [Option.bind_some]
  by_cases hle : n ≤ m
  ·rw [if_pos (by simpa using hle), if_pos hle]
   obtain ⟨c, e1, c', e2⟩ := sub_of m n (by omega) hle
   rw [e1]
   simp only [Option.bind_some]
   rw [e2]
   rfl
  ·rw [if_neg (by simpa using hle), if_neg hle]
   obtain ⟨c, e1, c', e2⟩ := sub_of n m (by omega) (by omega)
   rw [e1]
   simp only [Option.bind_some]
   rw [e2]
   rfl
theorem prod_lt (a b : Nat) (ha : a ≤ 9223372036854775808) (hb : b ≤ 9223372036854775808) : a * b < 170141183460469231731687303715884105728 := by
 have := Nat.mul_le_mul ha hb
 omega
/-- Fractions that are not negative are compared by their cross products. -/
theorem cmp_nat (an ad bn bd : Nat) (h1 : an ≤ 9223372036854775807) (h2 : ad ≤ 9223372036854775807) (h3 : bn ≤ 9223372036854775807) (h4 : bd ≤ 9223372036854775807) :
  rat_Cmp.f (an : Int) (ad : Int) (bn : Int) (bd : Int) = some (if an = bn ∧ ad = bd then 0 else if an * bd < bn * ad then -1 else 1) := by
 unfold rat_Cmp.f
 by_cases he : an = bn ∧ ad = bd
 ·rw [if_pos (by simp; omega), if_pos he]
 ·rw [if_neg (by simp; omega), if_neg he, times_of _ _ (by omega) (by omega) (by omega) (by omega)]
  simp only [Option.bind_some]
  rw [times_of _ _ (by omega) (by omega) (by omega) (by omega)]
  simp only [Option.bind_some, Int.natAbs_natCast]
  have e1 : ∀ x y : Nat, (decide ((x : Int) < 0) != decide ((y : Int) < 0)) = false := by
   intro x y
   rw [decide_eq_false (by omega), decide_eq_false (by omega)]; rfl
  rw [e1, e1, plus_of _ _ _ _ (prod_lt _ _ (by omega) (by omega)) (prod_lt _ _ (by omega) (by omega))]
  simp only [Bool.not_false, Option.bind_some, Bool.false_eq_true, if_false]
  by_cases hlt : an * bd < bn * ad
  ·have h' : ¬ (bn * ad ≤ an * bd) := by omega
   simp only [if_neg h', if_pos hlt, if_true]
  ·have h' : bn * ad ≤ an * bd := by omega
   simp only [if_pos h', if_neg hlt, Bool.false_eq_true, if_false]
end Go.Proofs.Ytohnkcmbogcfhaa.R
namespace Go.Proofs.Ytohnkcmbogcfhaa.R
open Go.RowKit Go.Proofs.Ytohnkcmbogcfhaa.P Go.Proofs.YtohnkcmbogcfhaaW.PrintWords Go.Proofs.YtohnkcmbogcfhaaW.PrintLast Go.Proofs.YtohnkcmbogcfhaaW.PrintMore
/-- What a description's numbers are. -/
def raw (x : S96) : Prop := (0 ≤ x.f0 ∧ x.f0 ≤ 255) ∧ (0 ≤ x.f1 ∧ x.f1 ≤ 255) ∧ (0 ≤ x.f2 ∧ x.f2 ≤ 65535) ∧ 0 ≤ x.f3 ∧ x.f3 ≤ 65535
theorem wf_u8 {n : Int} (h : (Lit.int .u8 n).wf = true) : 0 ≤ n ∧ n ≤ 255 := by
 simp only [Lit.wf, IntKind.min, IntKind.max, IntKind.signed, IntKind.bits, Bool.and_eq_true] at h
 simpa using h
def rn (N D : Nat) : Nat := N / Nat.gcd N D
def rd_ (N D : Nat) : Nat := D / Nat.gcd N D
theorem red_eq (N D : Nat) : N = rn N D * Nat.gcd N D ∧ D = rd_ N D * Nat.gcd N D :=
 ⟨(Nat.div_mul_cancel (Nat.gcd_dvd_left N D)).symm, (Nat.div_mul_cancel (Nat.gcd_dvd_right N D)).symm⟩
theorem red_gcd (N D : Nat) (hD : 0 < D) : Nat.gcd (rn N D) (rd_ N D) = 1 := Nat.coprime_div_gcd_div_gcd (Nat.gcd_pos_of_pos_right N hD)
theorem rn_le (N D : Nat) : rn N D ≤ N := Nat.div_le_self _ _
theorem rd_le (N D : Nat) : rd_ N D ≤ D := Nat.div_le_self _ _
theorem rd_pos (N D : Nat) (hD : 0 < D) : 0 < rd_ N D := Nat.div_pos (Nat.le_of_dvd hD (Nat.gcd_dvd_right N D)) (Nat.gcd_pos_of_pos_right N hD)
/-- Cross products keep their order when fractions are reduced. -/
theorem cross_lt (N1 D1 N2 D2 : Nat) (h1 : 0 < D1) (h2 : 0 < D2) : rn N1 D1 * rd_ N2 D2 < rn N2 D2 * rd_ N1 D1 ↔ N1 * D2 < N2 * D1 := by
 obtain ⟨e1, e2⟩ := red_eq N1 D1
 obtain ⟨e3, e4⟩ := red_eq N2 D2
 have g1 : 0 < Nat.gcd N1 D1 := Nat.gcd_pos_of_pos_right N1 h1
 have g2 : 0 < Nat.gcd N2 D2 := Nat.gcd_pos_of_pos_right N2 h2
 have k1 : N1 * D2 = (rn N1 D1 * rd_ N2 D2) * (Nat.gcd N1 D1 * Nat.gcd N2 D2) := by
  conv => lhs; rw [e1, e4]
  exact Nat.mul_mul_mul_comm _ _ _ _
 have k2 : N2 * D1 = (rn N2 D2 * rd_ N1 D1) * (Nat.gcd N1 D1 * Nat.gcd N2 D2) := by
  conv => lhs; rw [e3, e2]
  rw [Nat.mul_comm (Nat.gcd N1 D1)]
  exact Nat.mul_mul_mul_comm _ _ _ _
 rw [k1, k2]
 exact (Nat.mul_lt_mul_right (Nat.mul_pos g1 g2)).symm
theorem cmp_less (N1 D1 N2 D2 : Nat) (h1 : 0 < D1) (h2 : 0 < D2) (b1 : N1 ≤ 9223372036854775807) (b2 : D1 ≤ 9223372036854775807) (b3 : N2 ≤ 9223372036854775807) (b4 : D2 ≤ 9223372036854775807) (h : N1 * D2 < N2 * D1) :
  rat_Cmp.f (rn N1 D1 : Int) (rd_ N1 D1 : Int) (rn N2 D2 : Int) (rd_ N2 D2 : Int) = some (-1) := by
 have hc := (cross_lt N1 D1 N2 D2 h1 h2).2 h
 rw [cmp_nat _ _ _ _ (Nat.le_trans (rn_le _ _) b1) (Nat.le_trans (rd_le _ _) b2) (Nat.le_trans (rn_le _ _) b3) (Nat.le_trans (rd_le _ _) b4)]
 rw [if_neg (fun he => by rw [he.1, he.2] at hc; exact Nat.lt_irrefl _ hc), if_pos hc]
def cr (l : List S71) (k : Int) : Nat := (look l k).f1.toNat
def cw (l : List S71) (k : Int) : Nat := (look l k).f2.toNat
theorem cr_le (l : List S71) (h : Book l) (k : Int) : cr l k ≤ 1073741824 ∧ cw l k ≤ 1073741824 := by
 have := look_small l h.2 k
 unfold small at this
 unfold cr cw
 omega
theorem of_book (l : List S71) (h : Book l) (k : Int) (hk : -9223372036854775808 ≤ k ∧ k ≤ 9223372036854775807) : odds_book_of.f l k = some (k, (cr l k : Int), (cw l k : Int)) := by
 rw [of_spec l h.1 k hk.1 hk.2, look_f0]
 have := look_nn l h.1.2 k
 unfold cr cw
 rw [Int.toNat_of_nonneg this.1, Int.toNat_of_nonneg this.2]
theorem ev_LossB (l : List S71) (h : Book l) (k : Int) (hk : -9223372036854775808 ≤ k ∧ k ≤ 9223372036854775807) (cost : Nat) (hc : cost ≤ 1073741824) : Ev (fun n => odds_Loss.f n l k (cost : Int)) ((rn ((cr l k + 1) * cost) (cr l k + cw l k + 2) : Int), (rd_ ((cr l k + 1) * cost) (cr l k + cw l k + 2) : Int), 0) := by
 have hb := cr_le l h k
 exact ev_Loss l k k (cr l k) (cw l k) cost (of_book l h k hk) hb.1 hb.2 hc
theorem ev_OfB (l : List S71) (h : Book l) (k : Int) (hk : -9223372036854775808 ≤ k ∧ k ≤ 9223372036854775807) : Ev (fun n => odds_Of.f n l k) ((rn (cr l k + 1) (cr l k + cw l k + 2) : Int), (rd_ (cr l k + 1) (cr l k + cw l k + 2) : Int)) := by
 unfold odds_Of.f
 have := ev_LossB l h k hk 1 (by omega)
 rw [Nat.mul_one] at this
 exact Ev.bind this (Ev.now _)
end Go.Proofs.Ytohnkcmbogcfhaa.R
namespace Go.Proofs.Ytohnkcmbogcfhaa.R
open Go.RowKit Go.Proofs.Ytohnkcmbogcfhaa.P Go.Proofs.YtohnkcmbogcfhaaW.PrintWords Go.Proofs.YtohnkcmbogcfhaaW.PrintLast Go.Proofs.YtohnkcmbogcfhaaW.PrintMore
theorem red_unique (p q N D : Nat) (hD : 0 < D) (hq : 0 < q) (hg : Nat.gcd p q = 1) (h : p * D = N * q) : p = rn N D ∧ q = rd_ N D := by
 obtain ⟨e1, e2⟩ := red_eq N D
 have g0 : 0 < Nat.gcd N D := Nat.gcd_pos_of_pos_right N hD
 have hr := red_gcd N D hD
 have hd := rd_pos N D hD
 have hx : p * rd_ N D = rn N D * q := by
  have h' : (p * rd_ N D) * Nat.gcd N D = (rn N D * q) * Nat.gcd N D := by
   have k1 : (p * rd_ N D) * Nat.gcd N D = p * D := by rw [Nat.mul_assoc, ← e2]
   have k2 : (rn N D * q) * Nat.gcd N D = N * q := by
    conv => rhs; rw [e1]
    rw [Nat.mul_assoc, Nat.mul_comm q, ← Nat.mul_assoc]
   rw [k1, k2, h]
  exact Nat.eq_of_mul_eq_mul_right g0 h'
 have d1 : rd_ N D ∣ q := by
  have : rd_ N D ∣ rn N D * q := ⟨p, by rw [← hx, Nat.mul_comm]⟩
  exact Nat.Coprime.dvd_of_dvd_mul_left (Nat.Coprime.symm hr) this
 have d2 : q ∣ rd_ N D := by
  have : q ∣ p * rd_ N D := ⟨rn N D, by rw [hx, Nat.mul_comm]⟩
  exact Nat.Coprime.dvd_of_dvd_mul_left (Nat.Coprime.symm hg) this
 have e : q = rd_ N D := Nat.dvd_antisymm d2 d1
 refine ⟨?_, e⟩
 rw [← e] at hx
 exact Nat.eq_of_mul_eq_mul_right hq hx
theorem hi_small (m : Nat) (h : m ≤ 18446744073709551615) : hi m = 0 := by unfold hi; omega
theorem lo_small (m : Nat) (h : m ≤ 18446744073709551615) : lo m = (m : Int) := by unfold lo; omega
theorem quot_of (a g : Nat) (ha : a ≤ 4611686018427387904) : wrap64 (Int.tdiv (a : Int) (g : Int)) = ((a / g : Nat) : Int) := by
 have e : Int.tdiv (a : Int) (g : Int) = ((a / g : Nat) : Int) := rfl
 have h1 := Nat.div_le_self a g
 rw [e]
 generalize a / g = q at h1 ⊢
 exact wrap64_of (by omega) (by omega)
theorem times_nat (a b : Nat) (ha : a ≤ 4611686018427387904) (hb : b ≤ 4611686018427387904) : rat_times.f (a : Int) (b : Int) = some (false, hi (a * b), lo (a * b)) := by
 rw [times_of _ _ (by omega) (by omega) (by omega) (by omega), decide_eq_false (by omega), decide_eq_false (by omega), Int.natAbs_natCast, Int.natAbs_natCast]
 rfl
theorem made_hilo (a b : Nat) (ha : a ≤ 4611686018427387904) (hb : b ≤ 4611686018427387904) : Ev (fun k => rat_made.f k false (hi a) (lo a) false (hi b) (lo b)) ((a : Int), (b : Int), 0) := by
 rw [hi_small a (by omega), lo_small a (by omega), hi_small b (by omega), lo_small b (by omega)]
 exact made_small false a b ha hb
theorem mul_cancel (a' b' d' e' g1 g2 : Nat) : (a' * b') * ((d' * g2) * (e' * g1)) = ((a' * g1) * (b' * g2)) * (d' * e') := by grind
/-- The product of two fractions. -/
theorem ev_Mul (an ad bn bd : Nat) (ha : an ≤ 4611686018427387904) (hd : ad ≤ 4611686018427387904) (hb : bn ≤ 4611686018427387904) (he : bd ≤ 4611686018427387904)
  (d0 : 0 < ad) (e0 : 0 < bd) (ga : Nat.gcd an ad = 1) (gb : Nat.gcd bn bd = 1) (hN : rn (an * bn) (ad * bd) ≤ 4611686018427387904) (hD : rd_ (an * bn) (ad * bd) ≤ 4611686018427387904) :
  Ev (fun k => rat_Mul.f k (an : Int) (ad : Int) (bn : Int) (bd : Int)) ((rn (an * bn) (ad * bd) : Int), (rd_ (an * bn) (ad * bd) : Int), 0) := by
 have zero : an * bn = 0 → Ev (fun k => rat_Mul.j0 k true (an : Int) (ad : Int) (bn : Int) (bd : Int)) ((rn (an * bn) (ad * bd) : Int), (rd_ (an * bn) (ad * bd) : Int), 0) := by
  intro h0
  refine Ev.succ ?_
  simp only [rat_Mul.j0]
  rw [h0]
  unfold rn rd_
  rw [Nat.gcd_zero_left, Nat.zero_div, Nat.div_self (Nat.mul_pos d0 e0)]
  exact Ev.pos trivial (Ev.cbind rfl (Ev.now _))
 unfold rat_Mul.f
 refine Ev.ite (fun c => zero ?_) (fun c => ?_)
 ·have : an = 0 := by omega
  rw [this, Nat.zero_mul]
 by_cases c2 : bn = 0
 ·rw [show ((bn : Int) == 0) = true by simp; omega]
  exact zero (by rw [c2, Nat.mul_zero])
 rw [show ((bn : Int) == 0) = false by simp; omega]
 refine Ev.succ ?_
 simp only [rat_Mul.j0]
 have g10 : 0 < Nat.gcd an bd := Nat.gcd_pos_of_pos_right _ e0
 have g20 : 0 < Nat.gcd bn ad := Nat.gcd_pos_of_pos_right _ d0
 have g1l : Nat.gcd an bd ≤ bd := Nat.le_of_dvd e0 (Nat.gcd_dvd_right _ _)
 have g2l : Nat.gcd bn ad ≤ ad := Nat.le_of_dvd d0 (Nat.gcd_dvd_right _ _)
 refine Ev.neg (by simp) (Ev.cbind (abs_of _ (by omega) (by omega)) ?_)
 rw [Int.natAbs_natCast, u64_of (n := (bd : Int)) (by omega) (by omega)]
 refine Ev.bind (gcd2 an bd) (Ev.cbind (abs_of _ (by omega) (by omega)) ?_)
 rw [Int.natAbs_natCast, u64_of (n := (ad : Int)) (by omega) (by omega)]
 refine Ev.bind (gcd2 bn ad) ?_
 rw [wrap64_of (n := (Nat.gcd an bd : Int)) (by omega) (by omega), wrap64_of (n := (Nat.gcd bn ad : Int)) (by omega) (by omega)]
 refine Ev.neg (by omega) (Ev.neg (by omega) ?_)
 rw [quot_of an _ ha, quot_of bn _ hb, quot_of ad _ hd, quot_of bd _ he]
 have q1 : an / Nat.gcd an bd * Nat.gcd an bd = an := Nat.div_mul_cancel (Nat.gcd_dvd_left _ _)
 have q2 : bn / Nat.gcd bn ad * Nat.gcd bn ad = bn := Nat.div_mul_cancel (Nat.gcd_dvd_left _ _)
 have q3 : ad / Nat.gcd bn ad * Nat.gcd bn ad = ad := Nat.div_mul_cancel (Nat.gcd_dvd_right _ _)
 have q4 : bd / Nat.gcd an bd * Nat.gcd an bd = bd := Nat.div_mul_cancel (Nat.gcd_dvd_right _ _)
 have c14 : Nat.Coprime (an / Nat.gcd an bd) (bd / Nat.gcd an bd) := Nat.coprime_div_gcd_div_gcd g10
 have c23 : Nat.Coprime (bn / Nat.gcd bn ad) (ad / Nat.gcd bn ad) := Nat.coprime_div_gcd_div_gcd g20
 have p3 : 0 < ad / Nat.gcd bn ad := Nat.div_pos g2l g20
 have p4 : 0 < bd / Nat.gcd an bd := Nat.div_pos g1l g10
 have l1 := Nat.div_le_self an (Nat.gcd an bd)
 have l2 := Nat.div_le_self bn (Nat.gcd bn ad)
 have l3 := Nat.div_le_self ad (Nat.gcd bn ad)
 have l4 := Nat.div_le_self bd (Nat.gcd an bd)
 generalize an / Nat.gcd an bd = a' at *
 generalize bn / Nat.gcd bn ad = b' at *
 generalize ad / Nat.gcd bn ad = d' at *
 generalize bd / Nat.gcd an bd = e' at *
 generalize Nat.gcd an bd = g1 at *
 generalize Nat.gcd bn ad = g2 at *
 have v1 : a' ∣ an := ⟨g1, q1.symm⟩
 have v2 : b' ∣ bn := ⟨g2, q2.symm⟩
 have v3 : d' ∣ ad := ⟨g2, q3.symm⟩
 have v4 : e' ∣ bd := ⟨g1, q4.symm⟩
 have c13 : Nat.Coprime a' d' := Nat.Coprime.coprime_dvd_left v1 (Nat.Coprime.coprime_dvd_right v3 ga)
 have c24 : Nat.Coprime b' e' := Nat.Coprime.coprime_dvd_left v2 (Nat.Coprime.coprime_dvd_right v4 gb)
 have cc : Nat.gcd (a' * b') (d' * e') = 1 := Nat.Coprime.mul_left (Nat.Coprime.mul_right c13 c14) (Nat.Coprime.mul_right c23 c24)
 have hx : (a' * b') * (ad * bd) = (an * bn) * (d' * e') := by
  rw [← q1, ← q2, ← q3, ← q4]
  exact mul_cancel a' b' d' e' g1 g2
 obtain ⟨u1, u2⟩ := red_unique (a' * b') (d' * e') (an * bn) (ad * bd) (Nat.mul_pos d0 e0) (Nat.mul_pos p3 p4) cc hx
 rw [← u1] at hN
 rw [← u2] at hD
 rw [← u1, ← u2]
 exact Ev.cbind (times_nat a' b' (by omega) (by omega)) (Ev.cbind (times_nat d' e' (by omega) (by omega)) (Ev.bind (made_hilo _ _ hN hD) (Ev.now _)))
end Go.Proofs.Ytohnkcmbogcfhaa.R
namespace Go.Proofs.Ytohnkcmbogcfhaa.R
open Go.RowKit Go.Proofs.Ytohnkcmbogcfhaa.P Go.Proofs.YtohnkcmbogcfhaaW.PrintWords Go.Proofs.YtohnkcmbogcfhaaW.PrintLast Go.Proofs.YtohnkcmbogcfhaaW.PrintMore
theorem red_cross (N D : Nat) : rn N D * D = N * rd_ N D := by
 obtain ⟨e1, e2⟩ := red_eq N D
 have k1 : rn N D * D = rn N D * (rd_ N D * Nat.gcd N D) := by rw [← e2]
 have k2 : N * rd_ N D = (rn N D * Nat.gcd N D) * rd_ N D := by rw [← e1]
 rw [k1, k2, Nat.mul_assoc, Nat.mul_comm (rd_ N D)]
end Go.Proofs.Ytohnkcmbogcfhaa.R
namespace Go.Proofs.Ytohnkcmbogcfhaa.R
open Go.RowKit Go.Proofs.Ytohnkcmbogcfhaa.P Go.Proofs.YtohnkcmbogcfhaaW.PrintWords Go.Proofs.YtohnkcmbogcfhaaW.PrintLast Go.Proofs.YtohnkcmbogcfhaaW.PrintMore
def u8s (l : List Int) : Prop := ∀ x ∈ l, 0 ≤ x ∧ x ≤ 255
theorem rd_byte (l : List Int) (h : u8s l) (i : Int) : 0 ≤ rd l i ∧ rd l i ≤ 255 := by
 unfold rd
 rw [List.getD_eq_getElem?_getD]
 cases e : l[i.toNat]? with
 | none => simp
 | some v => simp only [Option.getD_some]; exact h v (List.mem_of_getElem? e)
theorem rd_mod (l : List Int) (h : u8s l) (i m : Int) (hm : 0 < m) (hm2 : m ≤ 256) : wrap64 (Int.tmod (rd l i) m) = rd l i % m ∧ 0 ≤ rd l i % m ∧ rd l i % m < m := by
 have hb := rd_byte l h i
 have e := Int.tmod_eq_emod_of_nonneg (b := m) hb.1
 have h1 := Int.emod_nonneg (rd l i) (show m ≠ 0 by omega)
 have h2 := Int.emod_lt_of_pos (rd l i) hm
 rw [e, wrap64_of (by omega) (by omega)]
 exact ⟨rfl, h1, h2⟩
def bookFrom (l : List Int) : Nat → Int → List S71
 | 0, _ => []
 | d + 1, k => if 2 * k ≤ (l.length : Int) then ⟨k, rd l (2 * k - 2) % 8, rd l (2 * k - 1) % 8⟩ :: bookFrom l d (k + 1) else []
def bookL (l : List Int) : List S71 := bookFrom l 14 1
theorem book_l0 (l : List Int) (hb : u8s l) : ∀ (d : Nat) (k : Int) (acc : List S71), k + d = 15 → 1 ≤ k → acc.length + d < 100 → Ev (fun n => paroleref42_Book.l0 n l acc k) (acc ++ bookFrom l d k) := by
 intro d
 induction d with
 | zero =>
  intro k acc h1 h2 h3
  refine Ev.succ ?_
  simp only [paroleref42_Book.l0, bookFrom, List.append_nil]
  exact Ev.neg (by omega) (Ev.now _)
 | succ d ih =>
  intro k acc h1 h2 h3
  refine Ev.succ ?_
  have e1 : wrap64 (2 * k) = 2 * k := wrap64_of (by omega) (by omega)
  have e2 : wrap64 (2 * k - 2) = 2 * k - 2 := wrap64_of (by omega) (by omega)
  have e3 : wrap64 (2 * k - 1) = 2 * k - 1 := wrap64_of (by omega) (by omega)
  have e4 : wrap64 (k + 1) = k + 1 := wrap64_of (by omega) (by omega)
  simp only [paroleref42_Book.l0, bookFrom, e1, e2, e3, e4, (rd_mod l hb _ 8 (by omega) (by omega)).1]
  refine Ev.pos (by omega) ?_
  by_cases hc : 2 * k ≤ (l.length : Int)
  ·rw [if_pos hc]
   refine Ev.pos hc (Ev.pos (by omega) (Ev.pos (by omega) (Ev.pos (by omega) (Ev.pos (by omega) (Ev.pos (by omega) ?_)))))
   have := ih (k + 1) (acc ++ [⟨k, rd l (2 * k - 2) % 8, rd l (2 * k - 1) % 8⟩]) (by omega) (by omega) (by simp; omega)
   simpa using this
  ·rw [if_neg hc, List.append_nil]
   exact Ev.neg hc (Ev.now _)
theorem ev_Book (l : List Int) (hb : u8s l) : Ev (fun n => paroleref42_Book.f n l) (bookL l) := by
 have := book_l0 l hb 14 1 [] (by omega) (by omega) (by simp)
 simpa [paroleref42_Book.f, bookL] using this
def tiny (x : S71) : Prop := 0 ≤ x.f1 ∧ x.f1 < 8 ∧ 0 ≤ x.f2 ∧ x.f2 < 8
theorem bookFrom_mem (l : List Int) (hb : u8s l) : ∀ (d : Nat) (k : Int) (y : S71), y ∈ bookFrom l d k → k ≤ y.f0 ∧ y.f0 < k + d ∧ tiny y := by
 intro d
 induction d with
 | zero => intro k y h; simp [bookFrom] at h
 | succ d ih =>
  intro k y h
  simp only [bookFrom] at h
  split at h
  ·rcases List.mem_cons.1 h with rfl | h
   ·have h1 := rd_mod l hb (2 * k - 2) 8 (by omega) (by omega)
    have h2 := rd_mod l hb (2 * k - 1) 8 (by omega) (by omega)
    exact ⟨Int.le_refl _, by simp only; omega, h1.2.1, h1.2.2, h2.2.1, h2.2.2⟩
   ·have := ih (k + 1) y h
    exact ⟨by omega, by omega, this.2.2⟩
  ·simp at h
theorem bookFrom_sorted (l : List Int) (hb : u8s l) : ∀ (d : Nat) (k : Int), Sorted (bookFrom l d k) := by
 intro d
 induction d with
 | zero => intro k; exact List.Pairwise.nil
 | succ d ih =>
  intro k
  simp only [bookFrom]
  split
  ·refine List.Pairwise.cons (fun y hy => ?_) (ih (k + 1))
   have := (bookFrom_mem l hb d (k + 1) y hy).1
   simp only
   omega
  ·exact List.Pairwise.nil
def Tiny (l : List S71) : Prop := Book l ∧ ∀ x ∈ l, tiny x
theorem bookL_tiny (l : List Int) (hb : u8s l) : Tiny (bookL l) := by
 refine ⟨⟨⟨bookFrom_sorted l hb 14 1, fun x hx => ?_⟩, fun x hx => ?_⟩, fun x hx => (bookFrom_mem l hb 14 1 x hx).2.2⟩
 ·obtain ⟨h1, h2, h3, h4, h5, h6⟩ := bookFrom_mem l hb 14 1 x hx
  exact ⟨h1, by omega, h3, h5⟩
 ·obtain ⟨h1, h2, h3, h4, h5, h6⟩ := bookFrom_mem l hb 14 1 x hx
  exact ⟨by omega, by omega⟩
theorem bookFrom_length (l : List Int) : ∀ (d : Nat) (k : Int), (bookFrom l d k).length ≤ d := by
 intro d
 induction d with
 | zero => intro k; simp [bookFrom]
 | succ d ih =>
  intro k
  simp only [bookFrom]
  split
  ·simp only [List.length_cons]; have := ih (k + 1); omega
  ·simp
theorem bookL_length (l : List Int) : (bookL l).length ≤ 14 := bookFrom_length l 14 1
/-- A premium: the odds times the loss, in lowest terms. -/
def pN (l : List S71) (k : Int) (c : Nat) : Nat := rn ((cr l k + 1) * c) (cr l k + cw l k + 2)
def pD (l : List S71) (k : Int) (c : Nat) : Nat := rd_ ((cr l k + 1) * c) (cr l k + cw l k + 2)
theorem ev_premium (l : List S71) (h : Book l) (f k : Int) (hf : 0 ≤ f ∧ f < 8) (hk : 1 ≤ k ∧ k ≤ 14) (c : Nat) (hc : c ≤ 1000000) :
  Ev (fun n => price_Premium.f n l f k (c : Int)) ((pN l k c : Int), (pD l k c : Int), 0) := by
 have hb := cr_le l h k
 unfold price_Premium.f
 have hw : price_wrong.f f k (c : Int) = some false := by
  have hd : decide ((c : Int) > 1000000) = false := decide_eq_false (by omega)
  unfold price_wrong.f price_firm.f
  rw [if_pos hf.1, show decide (f < 8) = true from decide_eq_true hf.2]
  simp only [Option.bind_some, if_true]
  rw [if_neg (by omega), if_neg (by omega), if_neg (by omega), hd]
 refine Ev.cbind hw (Ev.neg (by decide) (Ev.bind (ev_OfB l h k (by omega)) (Ev.cbind (show price_whole.f (c : Int) = some ((c : Int), 1) from rfl) ?_)))
 have T0 : 0 < cr l k + cw l k + 2 := by omega
 have hp := rd_pos (cr l k + 1) (cr l k + cw l k + 2) T0
 have hg := red_gcd (cr l k + 1) (cr l k + cw l k + 2) T0
 have hn := rn_le (cr l k + 1) (cr l k + cw l k + 2)
 have hd := rd_le (cr l k + 1) (cr l k + cw l k + 2)
 have hx := red_cross (cr l k + 1) (cr l k + cw l k + 2)
 have ha : cr l k + 1 ≤ 1073741825 := by omega
 have hT : cr l k + cw l k + 2 ≤ 2147483650 := by omega
 unfold pN pD
 generalize cr l k + 1 = a at *
 generalize cr l k + cw l k + 2 = T at *
 generalize rn a T = n at *
 generalize rd_ a T = d at *
 have hD : rd_ (n * c) (d * 1) ≤ 4611686018427387904 := by have := rd_le (n * c) (d * 1); omega
 have hN : rn (n * c) (d * 1) ≤ 4611686018427387904 := by
  have := rn_le (n * c) (d * 1)
  have h2 : n * c ≤ 1073741825 * 1000000 := Nat.mul_le_mul (by omega) hc
  omega
 have hm := ev_Mul n d c 1 (by omega) (by omega) (by omega) (by omega) hp (by omega) hg (by simp) hN hD
 have hcross : rn (n * c) (d * 1) * T = a * c * rd_ (n * c) (d * 1) := by
  have h1 := red_cross (n * c) (d * 1)
  have h3 : (rn (n * c) (d * 1) * T) * d = (a * c * rd_ (n * c) (d * 1)) * d := by
   have e1 : (rn (n * c) (d * 1) * T) * d = (rn (n * c) (d * 1) * (d * 1)) * T := by grind
   rw [e1, h1]
   have e2 : n * c * rd_ (n * c) (d * 1) * T = (n * T) * (c * rd_ (n * c) (d * 1)) := by grind
   rw [e2, hx]
   grind
  exact Nat.eq_of_mul_eq_mul_right hp h3
 obtain ⟨u1, u2⟩ := red_unique _ _ (a * c) T T0 (rd_pos _ _ (by omega)) (red_gcd (n * c) (d * 1) (by omega)) hcross
 rw [← u1, ← u2]
 exact Ev.bind hm (Ev.now _)
theorem ev_premium42 (l : List S71) (h : Book l) (f k : Int) (hf : 0 ≤ f ∧ f < 8) (hk : 1 ≤ k ∧ k ≤ 14) (c : Nat) (hc : c ≤ 1000000) :
  Ev (fun n => parolelaw42_premium.f n l f k (c : Int)) ((pN l k c : Int), (pD l k c : Int), 0) := by
 unfold parolelaw42_premium.f
 exact Ev.bind (ev_premium l h f k hf hk c hc) (Ev.now _)
/-- A row of a book with other counts. -/
theorem sorted_iff (l : List S71) : Sorted l ↔ (l.map (·.f0)).Pairwise (· < ·) := by
 unfold Sorted
 rw [List.pairwise_map]
theorem set_book (l : List S71) (h : Book l) (i : Nat) (hi : i < l.length) (y : S71) (h0 : y.f0 = l[i].f0) (h1 : 0 ≤ y.f1 ∧ y.f1 ≤ 1073741824) (h2 : 0 ≤ y.f2 ∧ y.f2 ≤ 1073741824) : Book (l.set i y) ∧ look (l.set i y) y.f0 = y := by
 have hm := List.getElem_mem hi
 have hB : Book (l.set i y) := by
  refine ⟨⟨?_, fun x hx => ?_⟩, fun x hx => ?_⟩
  ·rw [sorted_iff, List.map_set, h0]
   have e : (l.map (·.f0)).set i l[i].f0 = l.map (·.f0) := by
    have := @List.set_getElem_self _ (l.map (·.f0)) i (by simpa using hi)
    rwa [List.getElem_map] at this
   rw [e]
   exact (sorted_iff l).1 h.1.1
  ·rcases List.mem_or_eq_of_mem_set hx with hx | rfl
   ·exact h.1.2 x hx
   ·have := h.1.2 _ hm
    exact ⟨by rw [h0]; exact this.1, by rw [h0]; exact this.2.1, h1.1, h2.1⟩
  ·rcases List.mem_or_eq_of_mem_set hx with hx | rfl
   ·exact h.2 x hx
   ·exact ⟨h1.2, h2.2⟩
 exact ⟨hB, look_of _ hB.1.1 y (List.mem_set hi y)⟩
theorem rd_nat (l : List S71) (i : Nat) (hi : i < l.length) : rd_T71 l (i : Int) = l[i] := by
 simp [rd_T71, hi]
theorem look_at (l : List S71) (h : Book l) (i : Nat) (hi : i < l.length) : cr l l[i].f0 = l[i].f1.toNat ∧ cw l l[i].f0 = l[i].f2.toNat := by
 unfold cr cw
 rw [look_of l h.1.1 l[i] (List.getElem_mem hi)]
 exact ⟨rfl, rfl⟩
theorem set_at (l : List S71) (h : Book l) (i : Nat) (hi : i < l.length) (y : S71) (h0 : y.f0 = l[i].f0) (h1 : 0 ≤ y.f1 ∧ y.f1 ≤ 1073741824) (h2 : 0 ≤ y.f2 ∧ y.f2 ≤ 1073741824) : Book (l.set i y) ∧ cr (l.set i y) l[i].f0 = y.f1.toNat ∧ cw (l.set i y) l[i].f0 = y.f2.toNat := by
 obtain ⟨hB, hl⟩ := set_book l h i hi y h0 h1 h2
 rw [h0] at hl
 unfold cr cw
 rw [hl]
 exact ⟨hB, rfl, rfl⟩
theorem whole_red (c : Nat) : rn c 1 = c ∧ rd_ c 1 = 1 := by unfold rn rd_; simp
theorem none_red (T : Nat) (hT : 0 < T) : rn 0 T = 0 ∧ rd_ 0 T = 1 := by unfold rn rd_; rw [Nat.gcd_zero_left, Nat.div_self hT]; simp
end Go.Proofs.Ytohnkcmbogcfhaa.R
namespace Go.Proofs.Ytohnkcmbogcfhaa.Pure
open Go.RowKit Go.Proofs.Ytohnkcmbogcfhaa.P Go.Proofs.Ytohnkcmbogcfhaa.R Go.Proofs.YtohnkcmbogcfhaaW.PrintWords Go.Proofs.YtohnkcmbogcfhaaW.PrintLast
theorem PricePremiums : parolelaw42_PricePremiums.Pure := by
 intro l0 a1 a2 h0 h1 h2
 have hb : u8s l0 := fun x hx => wf_u8 (h0.2 x hx)
 have ha1 := wf_u8 h1
 have ha2 := wf_u8 h2
 refine Ev.rounds (g := fun k => parolelaw42_PricePremiums.f k l0 a1 a2) ?_
 unfold parolelaw42_PricePremiums.f
 refine Ev.cbind rfl (Ev.pos rfl (Ev.bind (ev_Book l0 hb) ?_))
 have hB := bookL_tiny l0 hb
 have hlen := bookL_length l0
 generalize bookL l0 = L at hB hlen ⊢
 refine Ev.ite (fun _ => Ev.now _) (fun hne => ?_)
 obtain ⟨i, hi, ei⟩ : ∃ i : Nat, i < L.length ∧ Int.tmod (wrap64 a1) (L.length : Int) = (i : Int) := by
  obtain ⟨m, rfl⟩ := Int.eq_ofNat_of_zero_le ha1.1
  exact ⟨m % L.length, Nat.mod_lt _ (by omega), by rw [wrap64_of (by omega) (by omega)]; rfl⟩
 obtain ⟨c, rfl⟩ := Int.eq_ofNat_of_zero_le ha2.1
 have ec : wrap64 (c : Int) = (c : Int) := wrap64_of (by omega) (by omega)
 have ht := hB.2 _ (List.getElem_mem hi)
 have hx := hB.1.1.2 _ (List.getElem_mem hi)
 unfold tiny at ht
 unfold okx at hx
 have w1 : wrap64 (L[i].f1 + 1) = L[i].f1 + 1 := wrap64_of (by omega) (by omega)
 have w2 : wrap64 (L[i].f1 + 1 - 1) = L[i].f1 := (wrap64_of (by omega) (by omega)).trans (by omega)
 have w3 : wrap64 (L[i].f2 + 1) = L[i].f2 + 1 := wrap64_of (by omega) (by omega)
 simp only [ei, ec, rd_nat L i hi, w1, w2, w3, Int.toNat_natCast, List.nil_append, Option.bind_some]
 refine Ev.pos (by omega) (Ev.pos (by omega) (Ev.pos (by simp; omega) (Ev.pos (by simp; omega) (Ev.pos (by omega) (Ev.pos (by omega) ?_)))))
 obtain ⟨r1, r2⟩ := look_at L hB.1 i hi
 obtain ⟨hY, y1, y2⟩ := set_at L hB.1 i hi ⟨L[i].f0, L[i].f1 + 1, L[i].f2⟩ rfl (by simp only; omega) (by simp only; omega)
 obtain ⟨hN, n1, n2⟩ := set_at L hB.1 i hi ⟨L[i].f0, L[i].f1, L[i].f2 + 1⟩ rfl (by simp only; omega) (by simp only; omega)
 refine Ev.bind (ev_premium42 L hB.1 0 _ (by omega) (by omega) c (by omega)) (Ev.bind (ev_premium42 _ hY 0 _ (by omega) (by omega) c (by omega)) (Ev.bind (ev_premium42 _ hN 0 _ (by omega) (by omega) c (by omega)) ?_))
 refine Ev.pos rfl (Ev.pos rfl (Ev.succ ?_))
 simp only [parolelaw42_PricePremiums.j0, ec]
 refine Ev.neg (by decide) (Ev.cbind rfl (Ev.cbind rfl ?_))
 obtain ⟨a, ea⟩ := Int.eq_ofNat_of_zero_le ht.1
 obtain ⟨b, eb⟩ := Int.eq_ofNat_of_zero_le ht.2.2.1
 have ta : a < 8 := by omega
 have tb : b < 8 := by omega
 have tc : c < 256 := by omega
 simp only [ea, eb, Int.toNat_natCast] at r1 r2 y1 y2 n1 n2
 have y1' : cr (L.set i ⟨L[i].f0, L[i].f1 + 1, L[i].f2⟩) L[i].f0 = a + 1 := by rw [ea, eb, y1]; omega
 have y2' : cw (L.set i ⟨L[i].f0, L[i].f1 + 1, L[i].f2⟩) L[i].f0 = b := by rw [ea, eb, y2]
 have n1' : cr (L.set i ⟨L[i].f0, L[i].f1, L[i].f2 + 1⟩) L[i].f0 = a := by rw [ea, eb, n1]
 have n2' : cw (L.set i ⟨L[i].f0, L[i].f1, L[i].f2 + 1⟩) L[i].f0 = b + 1 := by rw [ea, eb, n2]; omega
 have m1 : (a + 1) * c ≤ 8 * 255 := Nat.mul_le_mul (by omega) (by omega)
 have m2 : (a + 1 + 1) * c ≤ 9 * 255 := Nat.mul_le_mul (by omega) (by omega)
 unfold pN pD
 simp only [r1, r2, y1', y2', n1', n2']
 by_cases c0 : c = 0
 ·subst c0
  obtain ⟨u1, u2⟩ := none_red (a + b + 2) (by omega)
  obtain ⟨v1, v2⟩ := none_red (a + 1 + b + 2) (by omega)
  obtain ⟨x1, x2⟩ := none_red (a + (b + 1) + 2) (by omega)
  simp only [Nat.mul_zero, u1, u2, v1, v2, x1, x2]
  exact Ev.pos rfl (Ev.pos rfl (Ev.pos rfl (Ev.pos rfl (Ev.now _))))
 have hz := cmp_less 0 1 ((a + 1) * c) (a + b + 2) (by omega) (by omega) (by omega) (by omega) (by omega) (by omega) (by have : 0 < (a + 1) * c := Nat.mul_pos (by omega) (by omega); omega)
 have hl := cmp_less ((a + 1) * c) (a + b + 2) c 1 (by omega) (by omega) (by omega) (by omega) (by omega) (by omega) (by rw [Nat.mul_one, Nat.mul_comm]; exact Nat.mul_lt_mul_of_pos_left (by omega) (by omega))
 have hm := cmp_less ((a + 1) * c) (a + b + 2) ((a + 1 + 1) * c) (a + 1 + b + 2) (by omega) (by omega) (by omega) (by omega) (by omega) (by omega) (by
  have e : (a + 1 + 1) * c * (a + b + 2) = (a + 1) * c * (a + 1 + b + 2) + c * (b + 1) := by grind
  rw [e]
  exact Nat.lt_add_of_pos_right (Nat.mul_pos (by omega) (by omega)))
 have hs := cmp_less ((a + 1) * c) (a + (b + 1) + 2) ((a + 1) * c) (a + b + 2) (by omega) (by omega) (by omega) (by omega) (by omega) (by omega) (Nat.mul_lt_mul_of_pos_left (by omega) (Nat.mul_pos (by omega) (by omega)))
 rw [(whole_red 0).1, (whole_red 0).2] at hz
 rw [(whole_red c).1, (whole_red c).2] at hl
 exact Ev.neg (by omega) (Ev.cbind hz (Ev.pos (by omega) (Ev.cbind hl (Ev.pos (by omega) (Ev.cbind hm (Ev.pos (by omega) (Ev.cbind hs (Ev.pos (by omega) (Ev.now _)))))))))
end Go.Proofs.Ytohnkcmbogcfhaa.Pure
namespace Go.Proofs.YtohnkcmbogcfhaaH
open Go.RowKit Go.Proofs.YtohnkcmbogcfhaaW.PrintWords
variable {P : Program}
/-- What can be read as_ a value of type t is a value of kind d, and g holds of it. -/
def Opens (P : Program) (t : TypeId) {α : Type} (d : Kd α) (g : α → Prop) : Prop :=
 ∀ {H : Type} (enc : TypeId × Value → H) (W : World) (sp : Nat → Bool) (fuel : Nat) (cs : List Value) (x : DataW H × List MemPlace), DataW.trod enc P W 0 sp true fuel t cs = some x → ∃ y, d.K W y cs ∧ g y
theorem opens_int {t : TypeId} {k : IntKind} (ht : P.underlying t = some (.int k)) : Opens P t (Kd.int k) (fun n => (Lit.int k n).wf = true) := by
 intro H enc W sp fuel cs x h
 obtain ⟨n, rfl, _, hw⟩ := DataW.trod_int ht h
 exact ⟨n, rfl, hw⟩
theorem opens_slice {t e : TypeId} {α : Type} {d : Kd α} {g : α → Prop} (ht : P.underlying t = some (.slice e)) (hd : Opens P e d g) (hs : P.cellsOf e = d.sz) :
  Opens P t (Kd.slice e d) (fun l => l.length ≤ maxLen ∧ ∀ x ∈ l, g x) := by
 intro H enc W sp fuel cs x h
 rcases Deep.open_slice ht h with ⟨rfl, _⟩ | ⟨a, len, cap, m, n, D, Pl, rfl, _, hl, hm, hme, _, hel⟩
 ·refine ⟨[], ⟨none, 0, rfl, Nat.le_refl _, rfl, Nat.zero_le _, fun h => absurd h (Nat.lt_irrefl _)⟩, Nat.zero_le _, by simp⟩
 ·have hlm : len ≤ m := by rw [hme]; split <;> omega
  have h1 : ∀ i, ∃ z : Option α, i < len → ∃ y c, z = some y ∧ W.cells? 0 (a.add (i * P.cellsOf e)) (P.cellsOf e) = some c ∧ d.K W y c ∧ g y := by
   intro i
   by_cases hi : i < len
   ·obtain ⟨c, hc, hx⟩ := hel i (by omega)
    obtain ⟨y, hy, hg⟩ := hd enc W sp n c _ hx
    exact ⟨some y, fun _ => ⟨y, c, rfl, hc, hy, hg⟩⟩
   ·exact ⟨none, fun h => absurd h hi⟩
  obtain ⟨f, hf⟩ := Classical.axiomOfChoice h1
  have h2 : ∀ i, i < len → ∃ y c, f i = some y ∧ W.cells? 0 (a.add (i * P.cellsOf e)) (P.cellsOf e) = some c ∧ d.K W y c ∧ g y := fun i hi => hf i hi
  have key : ∀ k, k ≤ len → ∃ l : List α, l.length = k ∧ ∀ i, i < k → l[i]? = f i := by
   intro k
   induction k with
   | zero => intro _; exact ⟨[], rfl, fun i hi => absurd hi (Nat.not_lt_zero _)⟩
   | succ k ih =>
    intro hk
    obtain ⟨l, hll, hli⟩ := ih (by omega)
    obtain ⟨y, c, hy, _⟩ := h2 k (by omega)
    refine ⟨l ++ [y], by simp [hll], fun i hi => ?_⟩
    by_cases hik : i < k
    ·rw [List.getElem?_append_left (by omega)]; exact hli i hik
    ·have : i = k := by omega
     subst this
     rw [List.getElem?_append_right (by omega), hll]
     simp [hy]
  obtain ⟨l, hll, hli⟩ := key len (Nat.le_refl _)
  refine ⟨l, ⟨some a, cap, by rw [hll], by omega, rfl, ?_, fun _ => ⟨a, rfl, ?_⟩⟩, by omega, ?_⟩
  ·rw [hll]; unfold maxLen at hm; omega
  ·intro j p hj
   have hjl : j < len := by rw [← hll]; exact (List.getElem?_eq_some_iff.1 hj).1
   obtain ⟨y, c, hy, hc, hK, _⟩ := h2 j hjl
   have : p = y := by
    rw [hli j hjl, hy] at hj
    exact (Option.some.inj hj).symm
   subst this
   refine ⟨c, d.K_len hK, hK, fun i u hu => ?_⟩
   obtain ⟨_, hcl, hcc⟩ := World.cells?_some hc
   have hi : i < P.cellsOf e := by rw [← hcl]; exact (List.getElem?_eq_some_iff.1 hu).1
   rw [← hs, ← Deep.add_add, hcc i hi, hu]
  ·intro x hx
   obtain ⟨j, hj⟩ := List.getElem?_of_mem hx
   have hjl : j < len := by rw [← hll]; exact (List.getElem?_eq_some_iff.1 hj).1
   obtain ⟨y, c, hy, hc, hK, hg⟩ := h2 j hjl
   rw [hli j hjl, hy] at hj
   rw [← Option.some.inj hj]
   exact hg
theorem Opens.at_ {H : Type} {enc : TypeId × Value → H} {W : World} {sp : Nat → Bool} {t : TypeId} {v : Value} {x : DataW H} {ps : List MemPlace} {α : Type} {d : Kd α} {g : α → Prop} (ho : Opens P t d g) (h : DataW.Trod enc P W 0 sp true t v x ps) : ∃ y, d.K W y v.cells.toList ∧ g y := by
 obtain ⟨fuel, hf⟩ := h
 exact ho enc W sp fuel _ _ hf
end Go.Proofs.YtohnkcmbogcfhaaH
namespace Go.Proofs.Ytohnkcmbogcfhaa.pricePremiums
open Go.ChangeShapes Go.WideShapes Go.ChangeAt Go.RowKit Go.Proofs.YtohnkcmbogcfhaaH Go.Proofs.Ytohnkcmbogcfhaa.P Go.Proofs.YtohnkcmbogcfhaaW.PrintWords
open Go.ChangeMaps (open_string shut_string)
theorem own : ownKnob Try.prog.godebug = none := by kernel_rfl
theorem laidOut : laidOutB Try.prog = true := by kernel_rfl
set_option maxRecDepth 100000 in
set_option maxHeartbeats 4000000 in
theorem lifted (os : Os) (started : os.Started) (H : Type) (enc : TypeId × Value → H) :
  ReturnsInHanded {} Try.checked os 11 .any (Rows.pricePremiumsSpec.pre6 enc Try.prog Try.f11 Rows.pricePremiumsRow.domain false) (Rows.pricePremiumsSpec.post enc Try.prog Try.f11 false true false false) := by
 refine returnsInHanded_of_change_sized (C := Try.checked) own started (by kernel_rfl) Try.func11
  (ChangeSpec.witness6 (enc := enc) (C := Try.checked) false ⟨#[], #[.slice none 0 0, .int .u8 0, .int .u8 0], []⟩ 8 (by kernel_rfl) (by kernel_rfl) (by kernel_rfl) (by kernel_rfl)) ?_
 intro W base args ds gs before hval0 hW hcnd hsz0 _
 have hval : ∀ (j : Nat) t v, Try.f11.params[j]? = some t → args[j]? = some v → Value.okWide Try.prog W .any base t v := hval0
 have hW' := hW
 obtain ⟨p, q, hA0, hV, rfl, hfz, hnd⟩ := hW
 have hA : DataW.TrodAll enc Try.prog W 0 (fun _ => true) true Try.f11.params.toList args.toList ds p := hA0
 rw [Try.params11] at hA hval
 obtain ⟨v0, vs0, d0, ds0, p0, q0, hargs, rfl, rfl, h0, r0⟩ := trodAll_cons hA
 obtain ⟨v1, vs1, d1, ds1, p1, q1, rfl, rfl, rfl, h1, r1⟩ := trodAll_cons r0
 obtain ⟨v2, vs2, d2, ds2, p2, q2, rfl, rfl, rfl, h2, r2⟩ := trodAll_cons r1
 obtain ⟨rfl, rfl, rfl⟩ := trodAll_nil r2
 obtain rfl : args = #[v0, v1, v2] := by cases args; simp_all
 obtain ⟨rfl, rfl⟩ := trodVars_none hV
 obtain ⟨a0, n0, c0, rfl⟩ := okWide_slice Try.underlying42 (hval 0 42 v0 rfl rfl)
 have k0 := h0
 have lt0 : ∀ x ∈ p0, x.block < W.heap.size := by obtain ⟨m, hm⟩ := k0; exact DataW.trod_lt m _ _ _ hm
 obtain ⟨y0, K0, g0⟩ := Opens.at_ (opens_slice Try.underlying42 (opens_int Try.underlying5) (by kernel_rfl)) h0
 obtain ⟨A0, C0, e0, l0, rr0⟩ := K0
 obtain ⟨rfl, rfl, rfl⟩ : a0 = A0 ∧ n0 = y0.length ∧ c0 = C0 := by simpa [Value.cells] using e0
 obtain ⟨a1, rfl, rfl, rfl, w1⟩ := open_int Try.underlying5 (hval 1 5 v1 rfl rfl) h1
 obtain ⟨a2, rfl, rfl, rfl, w2⟩ := open_int Try.underlying5 (hval 2 5 v2 rfl rfl) h2
 obtain ⟨k, hk⟩ := Pure.PricePremiums y0 a1 a2 g0 w1 w2
 clear hA0 hval0 hsz0
 refine (parolelaw42_PricePremiums.calls k _ _ y0 a1 a2 true W rr0 l0 rfl hk).mono fun e W' hpost => ?_
 obtain ⟨he, bel0⟩ := hpost
 have bel : Below W.heap.size W W' := bel0
 subst he
 exact ⟨_, rfl, _, _, _, [], _, [], hW', trodAll_mk1 (shut_bool Try.underlying4 _), (trodAll_cons_mk (Below.trod laidOut (by kernel_rfl) (of_decide_eq_true (by kernel_rfl)) k0 bel lt0) (trodAll_cons_mk (shut_int Try.underlying5 w1) (trodAll_cons_mk (shut_int Try.underlying5 w2) trodAll_mk0))), rfl, bel.frame _, fun h => by cases h⟩
theorem over : Rows.pricePremiumsRow.holds Try.pinned (OpenSpec.ofChange Rows.pricePremiumsSpec) :=
 OpenClaim.holds_of_wide 11 Try.f11 rfl rfl rfl rfl rfl rfl rfl ⟨rfl, rfl, rfl, rfl, rfl⟩ rfl rfl rfl rfl rfl (by kernel_rfl) Try.func11 (by kernel_rfl)
  (of_decide_eq_true (by kernel_rfl)) (by unfold Func.isWrapper; first | (rw [if_pos (by decide +kernel)]; kernel_rfl) | (rw [if_neg (by decide +kernel)]; exact ⟨rfl, rfl⟩))
  (fun os started H enc _ => lifted os started H enc)
theorem proved : Rows.PricePremiumsSaid := over
end Go.Proofs.Ytohnkcmbogcfhaa.pricePremiums
namespace Go.Proofs.Ytohnkcmbogcfhaa
/-- The row, under a short name, for the claim. -/
theorem pricePremiums_holds : Rows.PricePremiumsSaid := pricePremiums.proved
end Go.Proofs.Ytohnkcmbogcfhaa

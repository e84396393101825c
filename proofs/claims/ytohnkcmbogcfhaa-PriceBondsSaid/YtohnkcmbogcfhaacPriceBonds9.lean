/- PriceBonds: one more risk adds its premium to the bond of its firm, and to no other one. The plain law. -/
import Derived.Test.YtohnkcmbogcfhaacPriceBonds8
import Derived.Deep.Slices
import Derived.WideShapes
import Derived.OpenShut
import Derived.ShutString
import Derived.ChangeOld
import Derived.SizedLaws
import Derived.Deep.OwnRows
import Derived.Laws.Rows
import Derived.Test.YtohnkcmbogcfhaaRows
set_option linter.unusedVariables false
set_option linter.unusedSimpArgs false
namespace Go.Proofs.Ytohnkcmbogcfhaa.P
open Go.Proofs.YtohnkcmbogcfhaaH Go.RowKit Go.Proofs.YtohnkcmbogcfhaaW.PrintWords Go.Proofs.YtohnkcmbogcfhaaW.PrintLast Go.Proofs.YtohnkcmbogcfhaaW.PrintMore
def parolelaw42_PriceBonds.f (k : Nat) (l0_0 : List Int) (l0_1 : List Int) (a0_2 : Int) (a1_0 : Int) (a1_1 : Int) (a2 : Int) : Option Bool := match parolelaw42_PriceBondsA.f k l0_0 l0_1 a0_2 a1_0 a1_1 a2 with
 | some r => some r
 | none => parolelaw42_PriceBondsB.f k l0_0 l0_1 a0_2 a1_0 a1_1 a2
theorem parolelaw42_PriceBonds.calls (k : Nat) (A0_0 : Option Addr) (c0_0 : Nat) (l0_0 : List Int) (A0_1 : Option Addr) (c0_1 : Nat) (l0_1 : List Int) (a0_2 : Int) (a1_0 : Int) (a1_1 : Int) (a2 : Int) (r : Bool) (w : World) (hr0_0 : Kd.C (Kd.int .u8) w A0_0 l0_0.length l0_0) (hc0_0 : l0_0.length ≤ c0_0) (hr0_1 : Kd.C (Kd.int .u8) w A0_1 l0_1.length l0_1) (hc0_1 : l0_1.length ≤ c0_1) (hT : r = true) (h : parolelaw42_PriceBonds.f k l0_0 l0_1 a0_2 a1_0 a1_1 a2 = some r) :
  Calls Try.prog 12 #[.agg #[.slice A0_0 l0_0.length c0_0, .slice A0_1 l0_1.length c0_1, .int .u16 a0_2], .agg #[.int .u8 a1_0, .int .u8 a1_1], .int .u8 a2] w fun e w' => e = .returned (.bool r) ∧ Below w.heap.size w w' := by
 unfold parolelaw42_PriceBonds.f at h
 cases hA : parolelaw42_PriceBondsA.f k l0_0 l0_1 a0_2 a1_0 a1_1 a2 with
 | some r' =>
  rw [hA] at h
  rw [Option.some.inj h] at hA
  exact parolelaw42_PriceBondsA.calls k A0_0 c0_0 l0_0 A0_1 c0_1 l0_1 a0_2 a1_0 a1_1 a2 r w hr0_0 hc0_0 hr0_1 hc0_1 hT hA
 | none =>
  rw [hA] at h
  exact parolelaw42_PriceBondsB.calls k A0_0 c0_0 l0_0 A0_1 c0_1 l0_1 a0_2 a1_0 a1_1 a2 r w hr0_0 hc0_0 hr0_1 hc0_1 hT h
def parolelaw42_PriceBonds.Pure : Prop := ∀ (l0_0 : List Int) (l0_1 : List Int) (a0_2 : Int) (a1_0 : Int) (a1_1 : Int) (a2 : Int), ((l0_0.length ≤ maxLen ∧ ∀ x142 ∈ l0_0, (Lit.int .u8 x142).wf = true) ∧ (l0_1.length ≤ maxLen ∧ ∀ x143 ∈ l0_1, (Lit.int .u8 x143).wf = true) ∧ (Lit.int .u16 a0_2).wf = true) → ((Lit.int .u8 a1_0).wf = true ∧ (Lit.int .u8 a1_1).wf = true) → (Lit.int .u8 a2).wf = true → ∃ k, parolelaw42_PriceBonds.f k l0_0 l0_1 a0_2 a1_0 a1_1 a2 = some true
end Go.Proofs.Ytohnkcmbogcfhaa.P
namespace Go.Proofs.Ytohnkcmbogcfhaa.R
open Go.RowKit Go.Proofs.Ytohnkcmbogcfhaa.P Go.Proofs.YtohnkcmbogcfhaaW.PrintWords Go.Proofs.YtohnkcmbogcfhaaW.PrintLast Go.Proofs.YtohnkcmbogcfhaaW.PrintMore
theorem wrap64_of {n : Int} (h0 : -9223372036854775808 ≤ n) (h1 : n ≤ 9223372036854775807) : wrap64 n = n := by
 unfold wrap64
 omega
theorem u64_of {n : Int} (h0 : 0 ≤ n) (h1 : n ≤ 18446744073709551615) : IntKind.u64.wrap n = n := by
 unfold IntKind.wrap
 simp [IntKind.signed, IntKind.bits]
 omega
theorem u64_def (n : Int) : IntKind.u64.wrap n = n % 18446744073709551616 := by
 unfold IntKind.wrap
 simp [IntKind.signed, IntKind.bits]
theorem Ev.ite {α : Type} {c : Prop} [Decidable c] {g f : Nat → Option α} {r : α} (h : c → Ev g r) (k : ¬ c → Ev f r) : Ev (fun n => if c then g n else f n) r := by
 by_cases hc : c
 ·exact Ev.congr (fun _ => if_pos hc) (h hc)
 ·exact Ev.congr (fun _ => if_neg hc) (k hc)
theorem Ev.pos {α : Type} {c : Prop} [Decidable c] {g f : Nat → Option α} {r : α} (hc : c) (h : Ev g r) : Ev (fun n => if c then g n else f n) r := Ev.congr (fun _ => if_pos hc) h
theorem Ev.neg {α : Type} {c : Prop} [Decidable c] {g f : Nat → Option α} {r : α} (hc : ¬ c) (h : Ev f r) : Ev (fun n => if c then g n else f n) r := Ev.congr (fun _ => if_neg hc) h
theorem Ev.succ {α : Type} {g : Nat → Option α} {r : α} (h : Ev (fun k => g (k + 1)) r) : Ev g r := Ev.step (fun _ => rfl) h
theorem Ev.const {α : Type} {o : Option α} {r : α} (h : o = some r) : Ev (fun _ => o) r := ⟨0, fun _ _ => h⟩
theorem Ev.cbind {α β : Type} {o : Option α} {f : Nat → α → Option β} {a : α} {r : β} (h : o = some a) (k : Ev (fun n => f n a) r) : Ev (fun n => o.bind (f n)) r := Ev.bind (Ev.const h) k
theorem gcd_l1 (x10 : List Int) (x11 x12 : Int) : ∀ (b a : Nat) (r : Int), Ev (fun k => rat_gcd.l0 k (Nat.gcd a b : Int) x10 x11 (wrap64 (x12 + 1))) r → Ev (fun k => rat_gcd.l1 k (a : Int) (b : Int) x10 x11 x12) r := by
 intro b
 induction b using Nat.strongRecOn with
 | _ b ih =>
  intro a r h
  refine Ev.succ ?_
  simp only [rat_gcd.l1]
  by_cases hb : b = 0
  ·subst hb
   refine Ev.neg (by simp) ?_
   simpa using h
  ·refine Ev.pos (by omega) (Ev.neg (by omega) ?_)
   have e : Int.tmod (a : Int) (b : Int) = ((a % b : Nat) : Int) := rfl
   rw [e]
   refine ih (a % b) (Nat.mod_lt _ (by omega)) b r ?_
   rw [Nat.gcd_comm, ← Nat.gcd_rec, Nat.gcd_comm]
   exact h
theorem gcd2 (a b : Nat) : Ev (fun k => rat_gcd.f k [(a : Int), (b : Int)]) (Nat.gcd a b : Int) := by
 unfold rat_gcd.f
 refine Ev.pos (by simp) (Ev.pos (by simp) ?_)
 simp only [rd, List.drop, List.getD, List.length]
 refine Ev.succ ?_
 simp only [rat_gcd.l0]
 refine Ev.pos (by simp) (Ev.pos (by simp) (Ev.pos (by simp) ?_))
 refine gcd_l1 _ _ _ b a _ ?_
 refine Ev.succ ?_
 simp only [rat_gcd.l0]
 exact Ev.neg (by rw [wrap64_of (by omega) (by omega)]; simp) (Ev.now _)
theorem number_small (neg : Bool) (lo : Nat) (h : lo ≤ 4611686018427387904) : Ev (fun k => rat_wide_number.f k neg 0 (lo : Int)) (if neg then -(lo : Int) else (lo : Int), true) := by
 unfold rat_wide_number.f
 refine Ev.neg (by omega) (Ev.succ ?_)
 simp only [rat_wide_number.j0]
 refine Ev.neg (by simp; omega) ?_
 rw [wrap64_of (n := (lo : Int)) (by omega) (by omega), wrap64_of (n := -(lo : Int)) (by omega) (by omega)]
 cases neg <;> simp <;> exact Ev.now _
theorem made_small (neg : Bool) (a b : Nat) (ha : a ≤ 4611686018427387904) (hb : b ≤ 4611686018427387904) : Ev (fun k => rat_made.f k neg 0 (a : Int) false 0 (b : Int)) (if neg then -(a : Int) else (a : Int), (b : Int), 0) := by
 unfold rat_made.f
 refine Ev.bind (number_small neg a ha) (Ev.bind (number_small false b hb) ?_)
 exact Ev.pos rfl (Ev.pos rfl (Ev.now _))
/-- New of two numbers that are not negative. -/
theorem new_nat (n d : Nat) (hn : n ≤ 4611686018427387904) (hd : 0 < d) (hd2 : d ≤ 4611686018427387904) : Ev (fun k => rat_New.f k (n : Int) (d : Int)) (((n / Nat.gcd n d : Nat) : Int), ((d / Nat.gcd n d : Nat) : Int), 0) := by
 unfold rat_New.f
 refine Ev.neg (by omega) ?_
 by_cases h0 : n = 0
 ·subst h0
  refine Ev.pos (by simp) ?_
  simp only [rat_zero.f, Option.bind_some, Nat.gcd_zero_left, Nat.zero_div, Nat.div_self hd]
  exact Ev.now _
 ·refine Ev.neg (by omega) ?_
  have ea : ∀ m : Nat, m ≤ 4611686018427387904 → rat_abs.f (m : Int) = some (m : Int) := by
   intro m hm
   unfold rat_abs.f
   rw [if_neg (by omega), u64_of (by omega) (by omega)]
  have hg : 0 < Nat.gcd n d := Nat.gcd_pos_of_pos_right _ hd
  refine Ev.cbind (ea n hn) (Ev.cbind (ea d hd2) (Ev.bind (gcd2 n d) (Ev.cbind (ea n hn) (Ev.neg (by omega) (Ev.cbind (ea d hd2) ?_)))))
  have e1 : ∀ m : Nat, m ≤ 4611686018427387904 → IntKind.u64.wrap (Int.tdiv (m : Int) (Nat.gcd n d : Int)) = ((m / Nat.gcd n d : Nat) : Int) := by
   intro m hm
   have e : Int.tdiv (m : Int) (Nat.gcd n d : Int) = ((m / Nat.gcd n d : Nat) : Int) := rfl
   have h1 := Nat.div_le_self m (Nat.gcd n d)
   rw [e]
   generalize m / Nat.gcd n d = q at h1
   exact u64_of (by omega) (by omega)
  rw [e1 n hn, e1 d hd2]
  have e2 : (decide ((n : Int) < 0) != decide ((d : Int) < 0)) = false := by
   rw [decide_eq_false (by omega), decide_eq_false (by omega)]; rfl
  rw [e2]
  refine Ev.bind (made_small false _ _ (Nat.le_trans (Nat.div_le_self _ _) hn) (Nat.le_trans (Nat.div_le_self _ _) hd2)) ?_
  exact Ev.now _
end Go.Proofs.Ytohnkcmbogcfhaa.R
namespace Go.Proofs.Ytohnkcmbogcfhaa.R
open Go.RowKit Go.Proofs.Ytohnkcmbogcfhaa.P Go.Proofs.YtohnkcmbogcfhaaW.PrintWords Go.Proofs.YtohnkcmbogcfhaaW.PrintLast Go.Proofs.YtohnkcmbogcfhaaW.PrintMore
/-- The loss of a kind, of which the book has these counts. -/
def lossR (x y cost : Nat) : Int × Int × Int := ((((x + 1) * cost / Nat.gcd ((x + 1) * cost) (x + y + 2) : Nat) : Int), (((x + y + 2) / Nat.gcd ((x + 1) * cost) (x + y + 2) : Nat) : Int), 0)
theorem ev_Loss (l : List S71) (kind q : Int) (x y cost : Nat) (hof : odds_book_of.f l kind = some (q, (x : Int), (y : Int))) (hx : x ≤ 1073741824) (hy : y ≤ 1073741824) (hc : cost ≤ 1073741824) : Ev (fun k => odds_Loss.f k l kind (cost : Int)) (lossR x y cost) := by
 unfold odds_Loss.f
 refine Ev.neg (by omega) (Ev.succ ?_)
 simp only [odds_Loss.j0]
 refine Ev.neg (by simp; omega) (Ev.cbind hof ?_)
 have hm : (x + 1) * cost ≤ 1073741825 * 1073741824 := Nat.mul_le_mul (by omega) hc
 have e1 : wrap64 (wrap64 ((x : Int) + 1) * (cost : Int)) = (((x + 1) * cost : Nat) : Int) := by
  rw [wrap64_of (n := (x : Int) + 1) (by omega) (by omega)]
  have : ((x : Int) + 1) * (cost : Int) = (((x + 1) * cost : Nat) : Int) := by push_cast; rfl
  rw [this, wrap64_of (by omega) (by omega)]
 have e2 : wrap64 (wrap64 ((x : Int) + (y : Int)) + 2) = ((x + y + 2 : Nat) : Int) := by
  rw [wrap64_of (n := (x : Int) + (y : Int)) (by omega) (by omega), wrap64_of (by omega) (by omega)]
  omega
 simp only [e1, e2]
 exact Ev.bind (new_nat _ _ (by omega) (by omega) (by omega)) (Ev.now _)
end Go.Proofs.Ytohnkcmbogcfhaa.R
namespace Go.Proofs.Ytohnkcmbogcfhaa.R
open Go.RowKit Go.Proofs.Ytohnkcmbogcfhaa.P Go.Proofs.YtohnkcmbogcfhaaW.PrintWords Go.Proofs.YtohnkcmbogcfhaaW.PrintLast Go.Proofs.YtohnkcmbogcfhaaW.PrintMore
def Sorted (l : List S71) : Prop := l.Pairwise (fun x y => x.f0 < y.f0)
/-- An element of a book, but for the greatest count. -/
def okx (x : S71) : Prop := 1 ≤ x.f0 ∧ x.f0 ≤ 14 ∧ 0 ≤ x.f1 ∧ 0 ≤ x.f2
def small (x : S71) : Prop := x.f1 ≤ 1073741824 ∧ x.f2 ≤ 1073741824
def Pre (l : List S71) : Prop := Sorted l ∧ ∀ x ∈ l, okx x
/-- The counts of a kind. -/
def look (l : List S71) (k : Int) : S71 := (l.find? (fun x => x.f0 == k)).getD ⟨k, 0, 0⟩
def has (l : List S71) (k : Int) : Bool := l.any (fun x => x.f0 == k)
theorem look_cons (x : S71) (l : List S71) (k : Int) : look (x :: l) k = if x.f0 = k then x else look l k := by
 unfold look
 by_cases h : x.f0 = k <;> simp [h]
theorem has_cons (x : S71) (l : List S71) (k : Int) : has (x :: l) k = (x.f0 == k || has l k) := by simp [has]
theorem look_f0 (l : List S71) (k : Int) : (look l k).f0 = k := by
 induction l with
 | nil => rfl
 | cons x l ih =>
  rw [look_cons]
  split
  ·assumption
  ·exact ih
theorem look_not (l : List S71) (k : Int) (h : has l k = false) : look l k = ⟨k, 0, 0⟩ := by
 induction l with
 | nil => rfl
 | cons x l ih =>
  rw [has_cons, Bool.or_eq_false_iff] at h
  rw [look_cons, if_neg (by simpa using h.1), ih h.2]
theorem has_iff (l : List S71) (k : Int) : has l k = true ↔ ∃ x ∈ l, x.f0 = k := by simp [has]
theorem look_mem (l : List S71) (k : Int) (h : has l k = true) : look l k ∈ l := by
 induction l with
 | nil => simp [has] at h
 | cons x l ih =>
  rw [look_cons]
  split
  ·simp
  ·rename_i hne
   rw [has_cons] at h
   have : (x.f0 == k) = false := by simpa using hne
   rw [this, Bool.false_or] at h
   exact List.mem_cons_of_mem _ (ih h)
theorem look_of (l : List S71) (hs : Sorted l) (x : S71) (hx : x ∈ l) : look l x.f0 = x := by
 induction l with
 | nil => simp at hx
 | cons y l ih =>
  unfold Sorted at hs ih
  rw [List.pairwise_cons] at hs
  rw [look_cons]
  rcases List.mem_cons.1 hx with rfl | hx
  ·simp
  ·have := hs.1 x hx
   rw [if_neg (by omega)]
   exact ih hs.2 hx
theorem look_nn (l : List S71) (h : ∀ x ∈ l, okx x) (k : Int) : 0 ≤ (look l k).f1 ∧ 0 ≤ (look l k).f2 := by
 cases hk : has l k with
 | true => have := h _ (look_mem l k hk); unfold okx at this; omega
 | false => rw [look_not l k hk]; simp
theorem look_small (l : List S71) (h : ∀ x ∈ l, small x) (k : Int) : small (look l k) := by
 cases hk : has l k with
 | true => exact h _ (look_mem l k hk)
 | false => rw [look_not l k hk]; simp [small]
def Book (l : List S71) : Prop := Pre l ∧ ∀ x ∈ l, small x
theorem sorted_length (l : List S71) (h : Pre l) : l.length ≤ 14 := by
 have key : ∀ (l : List S71) (m : Int), Sorted l → (∀ x ∈ l, m ≤ x.f0 ∧ x.f0 ≤ 14) → m ≤ 15 → (l.length : Int) ≤ 15 - m := by
  intro l
  induction l with
  | nil => intro m _ _ hm; simp; omega
  | cons x l ih =>
   intro m hs hx hm
   unfold Sorted at hs
   rw [List.pairwise_cons] at hs
   have h0 := hx x (by simp)
   have := ih (x.f0 + 1) hs.2 (fun y hy => ⟨by have := hs.1 y hy; omega, (hx y (by simp [hy])).2⟩) (by omega)
   simp only [List.length_cons]
   omega
 have := key l 1 h.1 (fun x hx => by have := h.2 x hx; unfold okx at this; omega) (by omega)
 omega
/-- What the binary search finds. -/
theorem bsl_part (l : List S71) (t : Int) (n : Nat) (hp : ∀ i, i < n → wrap64 ((l.getD i z71).f0 - t) < 0) (hq : ∀ i, n ≤ i → i < l.length → ¬ wrap64 ((l.getD i z71).f0 - t) < 0) (hn : n ≤ l.length) :
  ∀ (m i j : Nat), i ≤ n → n ≤ j → j ≤ l.length → j - i ≤ m → bsl l t m i j = n := by
 intro m
 induction m with
 | zero => intro i j h1 h2 h3 h4; simp [bsl]; omega
 | succ m ih =>
  intro i j h1 h2 h3 h4
  unfold bsl
  by_cases hij : i < j
  ·rw [if_pos hij]
   by_cases hw : wrap64 ((l.getD ((i + j) / 2) z71).f0 - t) < 0
   ·rw [if_pos hw]
    have : (i + j) / 2 < n := by
     rcases Nat.lt_or_ge ((i + j) / 2) n with h | h
     ·exact h
     ·exact absurd hw (hq _ h (by omega))
    exact ih _ _ (by omega) h2 h3 (by omega)
   ·rw [if_neg hw]
    have : n ≤ (i + j) / 2 := by
     rcases Nat.lt_or_ge ((i + j) / 2) n with h | h
     ·exact absurd (hp _ h) hw
     ·exact h
    exact ih _ _ h1 this (by omega) (by omega)
  ·rw [if_neg hij]; omega
theorem of_spec (l : List S71) (hl : Pre l) (t : Int) (ht0 : -9223372036854775808 ≤ t) (ht1 : t ≤ 9223372036854775807) : odds_book_of.f l t = some ((look l t).f0, (look l t).f1, (look l t).f2) := by
 unfold odds_book_of.f
 have hlen := sorted_length l hl
 rw [if_pos (by omega)]
 have hk : ∀ i, i < l.length → 1 ≤ (l.getD i z71).f0 ∧ (l.getD i z71).f0 ≤ 14 := by
  intro i hi
  have hm : l.getD i z71 ∈ l := by simp [List.getD_eq_getElem?_getD, List.getElem?_eq_getElem hi]
  have := hl.2 _ hm
  unfold okx at this
  omega
 by_cases hok : bsOk l t = true
 ·rw [if_pos hok]
  have hlt := bsOk_lt hok
  unfold bsOk at hok
  simp only [Bool.and_eq_true, decide_eq_true_eq, beq_iff_eq] at hok
  have hm : l.getD (bsI l t) z71 ∈ l := by simp [List.getD_eq_getElem?_getD, List.getElem?_eq_getElem hlt]
  have he : (l.getD (bsI l t) z71).f0 = t := by
   have h1 := hok.2
   have h2 := hk _ hlt
   unfold wrap64 at h1
   omega
  have := look_of l hl.1 _ hm
  rw [he] at this
  rw [this]
 ·rw [if_neg hok]
  have hno : has l t = false := by
   cases hc : has l t with
   | false => rfl
   | true =>
    exfalso
    obtain ⟨x, hx, hxe⟩ := (has_iff l t).1 hc
    obtain ⟨n, hn, hnx⟩ := List.getElem_of_mem hx
    have hg : ∀ i (hi : i < l.length), l.getD i z71 = l[i] := fun i hi => by simp [List.getD_eq_getElem?_getD, List.getElem?_eq_getElem hi]
    have hpw := List.pairwise_iff_getElem.1 hl.1
    have hr := hk n hn
    rw [hg n hn, hnx, hxe] at hr
    have hbs : bsI l t = n := by
     refine bsl_part l t n (fun i hi => ?_) (fun i hi hil => ?_) (by omega) l.length 0 l.length (by omega) (by omega) (by omega) (by omega)
     ·have h1 := hpw i n (by omega) hn hi
      have h2 := hk i (by omega)
      rw [hg i (by omega)] at h2 ⊢
      rw [hnx, hxe] at h1
      unfold wrap64; omega
     ·have h2 := hk i hil
      rw [hg i hil] at h2 ⊢
      rcases Nat.eq_or_lt_of_le hi with rfl | hlt
      ·rw [hnx, hxe]; unfold wrap64; omega
      ·have h1 := hpw n i hn hil hlt
       rw [hnx, hxe] at h1
       unfold wrap64; omega
    refine hok ?_
    unfold bsOk
    rw [hbs, hg n hn, hnx, hxe]
    simp [hn, wrap64]
  rw [look_not l t hno]
end Go.Proofs.Ytohnkcmbogcfhaa.R
namespace Go.Proofs.Ytohnkcmbogcfhaa.R
open Go.RowKit Go.Proofs.Ytohnkcmbogcfhaa.P Go.Proofs.YtohnkcmbogcfhaaW.PrintWords Go.Proofs.YtohnkcmbogcfhaaW.PrintLast Go.Proofs.YtohnkcmbogcfhaaW.PrintMore
theorem u64_mask (x : Int) (h0 : 0 ≤ x) (h1 : x ≤ 18446744073709551615) : Go.bits .and .u64 x 4294967295 = x % 4294967296 :=
 bits_mask .u64 64 (by decide) (fun n h0 h1 => u64_of h0 (by omega)) 32 (by decide) x h0 (by omega)
theorem mul64 (a b : Nat) (ha : a ≤ 18446744073709551615) (hb : b ≤ 18446744073709551615) : bits_Mul64.f (a : Int) (b : Int) = some (((a * b / 18446744073709551616 : Nat) : Int), ((a * b % 18446744073709551616 : Nat) : Int)) := by
 obtain ⟨x1, hx1⟩ : ∃ x1, x1 = a / 4294967296 := ⟨_, rfl⟩
 obtain ⟨x0, hx0⟩ : ∃ x0, x0 = a % 4294967296 := ⟨_, rfl⟩
 obtain ⟨y1, hy1⟩ : ∃ y1, y1 = b / 4294967296 := ⟨_, rfl⟩
 obtain ⟨y0, hy0⟩ : ∃ y0, y0 = b % 4294967296 := ⟨_, rfl⟩
 have ea : a = x1 * 4294967296 + x0 := by omega
 have eb : b = y1 * 4294967296 + y0 := by omega
 have bx1 : x1 ≤ 4294967295 := by omega
 have bx0 : x0 ≤ 4294967295 := by omega
 have by1 : y1 ≤ 4294967295 := by omega
 have by0 : y0 ≤ 4294967295 := by omega
 have i1 : (a : Int) / 4294967296 = (x1 : Int) := by omega
 have i2 : (b : Int) / 4294967296 = (y1 : Int) := by omega
 have i3 : Go.bits .and .u64 (a : Int) 4294967295 = (x0 : Int) := by rw [u64_mask _ (by omega) (by omega)]; omega
 have i4 : Go.bits .and .u64 (b : Int) 4294967295 = (y0 : Int) := by rw [u64_mask _ (by omega) (by omega)]; omega
 have p11 : x1 * y1 ≤ 4294967295 * 4294967295 := Nat.mul_le_mul bx1 by1
 have p10 : x1 * y0 ≤ 4294967295 * 4294967295 := Nat.mul_le_mul bx1 by0
 have p01 : x0 * y1 ≤ 4294967295 * 4294967295 := Nat.mul_le_mul bx0 by1
 have p00 : x0 * y0 ≤ 4294967295 * 4294967295 := Nat.mul_le_mul bx0 by0
 have eab : a * b = (x1 * y1) * 18446744073709551616 + (x1 * y0 + x0 * y1) * 4294967296 + x0 * y0 := by
  rw [ea, eb]
  grind
 have c11 : (x1 : Int) * (y1 : Int) = ((x1 * y1 : Nat) : Int) := by push_cast; rfl
 have c10 : (x1 : Int) * (y0 : Int) = ((x1 * y0 : Nat) : Int) := by push_cast; rfl
 have c01 : (x0 : Int) * (y1 : Int) = ((x0 * y1 : Nat) : Int) := by push_cast; rfl
 have c00 : (x0 : Int) * (y0 : Int) = ((x0 * y0 : Nat) : Int) := by push_cast; rfl
 have cab : (a : Int) * (b : Int) = ((a * b : Nat) : Int) := by push_cast; rfl
 unfold bits_Mul64.f
 rw [i1, i2, i3, i4, c11, c10, c01, c00, cab]
 generalize x1 * y1 = P11 at *
 generalize x1 * y0 = P10 at *
 generalize x0 * y1 = P01 at *
 generalize x0 * y0 = P00 at *
 generalize a * b = AB at *
 have w00 : IntKind.u64.wrap (P00 : Int) = (P00 : Int) := u64_of (by omega) (by omega)
 have w11 : IntKind.u64.wrap (P11 : Int) = (P11 : Int) := u64_of (by omega) (by omega)
 have w10 : IntKind.u64.wrap (P10 : Int) = (P10 : Int) := u64_of (by omega) (by omega)
 have w01 : IntKind.u64.wrap (P01 : Int) = (P01 : Int) := u64_of (by omega) (by omega)
 rw [w00, w11, w10, w01]
 have wt : IntKind.u64.wrap ((P10 : Int) + (P00 : Int) / 4294967296) = ((P10 + P00 / 4294967296 : Nat) : Int) := by rw [u64_of (by omega) (by omega)]; omega
 rw [wt]
 obtain ⟨T, hT⟩ : ∃ T, T = P10 + P00 / 4294967296 := ⟨_, rfl⟩
 rw [← hT]
 rw [u64_mask (T : Int) (by omega) (by omega)]
 have ww : IntKind.u64.wrap ((T : Int) % 4294967296 + (P01 : Int)) = ((T % 4294967296 + P01 : Nat) : Int) := by rw [u64_of (by omega) (by omega)]; omega
 rw [ww]
 have wh : IntKind.u64.wrap ((P11 : Int) + (T : Int) / 4294967296) = ((P11 + T / 4294967296 : Nat) : Int) := by rw [u64_of (by omega) (by omega)]; omega
 rw [wh, u64_of (by omega) (by omega), u64_def]
 congr 1
 refine Prod.ext ?_ ?_
 ·simp only; omega
 ·simp only; omega
theorem abs_of (a : Int) (h0 : -9223372036854775808 ≤ a) (h1 : a ≤ 9223372036854775807) : rat_abs.f a = some (a.natAbs : Int) := by
 unfold rat_abs.f
 by_cases h : a < 0
 ·rw [if_pos h, u64_def, u64_def]
  congr 1
  omega
 ·rw [if_neg h, u64_of (by omega) (by omega)]
  congr 1
  omega
/-- A number of 128 bits: its upper and its lower half. -/
def hi (m : Nat) : Int := ((m / 18446744073709551616 : Nat) : Int)
def lo (m : Nat) : Int := ((m % 18446744073709551616 : Nat) : Int)
theorem times_of (a b : Int) (ha0 : -9223372036854775808 ≤ a) (ha1 : a ≤ 9223372036854775807) (hb0 : -9223372036854775808 ≤ b) (hb1 : b ≤ 9223372036854775807) :
  rat_times.f a b = some ((decide (a < 0) != decide (b < 0)), hi (a.natAbs * b.natAbs), lo (a.natAbs * b.natAbs)) := by
 unfold rat_times.f
 rw [abs_of a ha0 ha1, abs_of b hb0 hb1]
 simp only [Option.bind_some]
 rw [mul64 _ _ (by omega) (by omega)]
 rfl
theorem atLeast_of (s t : Bool) (m n : Nat) : rat_wide_atLeast.f s (hi m) (lo m) t (hi n) (lo n) = some (decide (n ≤ m)) := by
 unfold rat_wide_atLeast.f hi lo
 by_cases h1 : ((m / 18446744073709551616 : Nat) : Int) > ((n / 18446744073709551616 : Nat) : Int)
 ·rw [if_pos h1, decide_eq_true (by omega)]
 ·rw [if_neg h1]
  by_cases h2 : ((m / 18446744073709551616 : Nat) : Int) = ((n / 18446744073709551616 : Nat) : Int)
  ·rw [if_pos h2]
   congr 1
   rw [decide_eq_decide]
   omega
  ·rw [if_neg h2, decide_eq_false (by omega)]
theorem sub_of (m n : Nat) (hm : m < 340282366920938463463374607431768211456) (h : n ≤ m) :
  ∃ c, bits_Sub64.f (lo m) (lo n) 0 = some (lo (m - n), c) ∧ ∃ c', bits_Sub64.f (hi m) (hi n) c = some (hi (m - n), c') := by
 unfold bits_Sub64.f hi lo
 rw [if_pos (by omega)]
 refine ⟨if ((m % 18446744073709551616 : Nat) : Int) < ((n % 18446744073709551616 : Nat) : Int) + 0 then 1 else 0, ?_, ?_⟩
 ·refine congrArg some (Prod.ext ?_ rfl)
  simp only
  omega
 ·rw [if_pos (by split <;> omega)]
  generalize hc : (if ((m % 18446744073709551616 : Nat) : Int) < ((n % 18446744073709551616 : Nat) : Int) + 0 then (1 : Int) else 0) = c
  refine ⟨if ((m / 18446744073709551616 : Nat) : Int) < ((n / 18446744073709551616 : Nat) : Int) + c then 1 else 0, congrArg some (Prod.ext ?_ rfl)⟩
  simp only
  split at hc <;> omega
theorem plus_of (s t : Bool) (m n : Nat) (hm : m < 170141183460469231731687303715884105728) (hn : n < 170141183460469231731687303715884105728) :
  rat_wide_plus.f s (hi m) (lo m) t (hi n) (lo n) = some (if s = t then (s, hi (m + n), lo (m + n)) else if n ≤ m then (s, hi (m - n), lo (m - n)) else (t, hi (n - m), lo (n - m))) := by
 unfold rat_wide_plus.f
 by_cases hst : s = t
 ·subst hst
  rw [if_pos (by simp), if_pos rfl]
  unfold bits_Add64.f hi lo
  rw [if_pos (by omega)]
  simp only [Option.bind_some]
  rw [if_pos (by omega)]
  simp only [Option.bind_some]
  refine congrArg some (Prod.ext rfl (Prod.ext ?_ ?_))
  ·simp only; omega
  ·simp only; omega
 ·rw [if_neg (by simpa using hst), if_neg hst, atLeast_of]
  simp only [Option.bind_some]
  by_cases hle : n ≤ m
  ·rw [if_pos (by simpa using hle), if_pos hle]
   obtain ⟨c, e1, c', e2⟩ := sub_of m n (by omega) hle
   rw [e1]
   simp only [Option.bind_some]
   rw [e2]
   rfl
  ·rw [if_neg (by simpa using hle), if_neg hle]
   obtain ⟨c, e1, c', e2⟩ := sub_of n m (by omega) (by omega)
   rw [e1]
   simp only [Option.bind_some]
   rw [e2]
   rfl
theorem prod_lt (a b : Nat) (ha : a ≤ 9223372036854775808) (hb : b ≤ 9223372036854775808) : a * b < 170141183460469231731687303715884105728 := by
 have := Nat.mul_le_mul ha hb
 omega
/-- Fractions that are not negative are compared by their cross products. -/
theorem cmp_nat (an ad bn bd : Nat) (h1 : an ≤ 9223372036854775807) (h2 : ad ≤ 9223372036854775807) (h3 : bn ≤ 9223372036854775807) (h4 : bd ≤ 9223372036854775807) :
  rat_Cmp.f (an : Int) (ad : Int) (bn : Int) (bd : Int) = some (if an = bn ∧ ad = bd then 0 else if an * bd < bn * ad then -1 else 1) := by
 unfold rat_Cmp.f
 by_cases he : an = bn ∧ ad = bd
 ·rw [if_pos (by simp; omega), if_pos he]
 ·rw [if_neg (by simp; omega), if_neg he, times_of _ _ (by omega) (by omega) (by omega) (by omega)]
  simp only [Option.bind_some]
  rw [times_of _ _ (by omega) (by omega) (by omega) (by omega)]
  simp only [Option.bind_some, Int.natAbs_natCast]
  have e1 : ∀ x y : Nat, (decide ((x : Int) < 0) != decide ((y : Int) < 0)) = false := by
   intro x y
   rw [decide_eq_false (by omega), decide_eq_false (by omega)]; rfl
  rw [e1, e1, plus_of _ _ _ _ (prod_lt _ _ (by omega) (by omega)) (prod_lt _ _ (by omega) (by omega))]
  simp only [Bool.not_false, Option.bind_some, Bool.false_eq_true, if_false]
  by_cases hlt : an * bd < bn * ad
  ·have h' : ¬ (bn * ad ≤ an * bd) := by omega
   simp only [if_neg h', if_pos hlt, if_true]
  ·have h' : bn * ad ≤ an * bd := by omega
   simp only [if_pos h', if_neg hlt, Bool.false_eq_true, if_false]
end Go.Proofs.Ytohnkcmbogcfhaa.R
namespace Go.Proofs.Ytohnkcmbogcfhaa.R
open Go.RowKit Go.Proofs.Ytohnkcmbogcfhaa.P Go.Proofs.YtohnkcmbogcfhaaW.PrintWords Go.Proofs.YtohnkcmbogcfhaaW.PrintLast Go.Proofs.YtohnkcmbogcfhaaW.PrintMore
/-- What a description's numbers are. -/
def raw (x : S96) : Prop := (0 ≤ x.f0 ∧ x.f0 ≤ 255) ∧ (0 ≤ x.f1 ∧ x.f1 ≤ 255) ∧ (0 ≤ x.f2 ∧ x.f2 ≤ 65535) ∧ 0 ≤ x.f3 ∧ x.f3 ≤ 65535
theorem wf_u8 {n : Int} (h : (Lit.int .u8 n).wf = true) : 0 ≤ n ∧ n ≤ 255 := by
 simp only [Lit.wf, IntKind.min, IntKind.max, IntKind.signed, IntKind.bits, Bool.and_eq_true] at h
 simpa using h
theorem wf_u16 {n : Int} (h : (Lit.int .u16 n).wf = true) : 0 ≤ n ∧ n ≤ 65535 := by
 simp only [Lit.wf, IntKind.min, IntKind.max, IntKind.signed, IntKind.bits, Bool.and_eq_true] at h
 simpa using h
def rn (N D : Nat) : Nat := N / Nat.gcd N D
def rd_ (N D : Nat) : Nat := D / Nat.gcd N D
theorem red_eq (N D : Nat) : N = rn N D * Nat.gcd N D ∧ D = rd_ N D * Nat.gcd N D :=
 ⟨(Nat.div_mul_cancel (Nat.gcd_dvd_left N D)).symm, (Nat.div_mul_cancel (Nat.gcd_dvd_right N D)).symm⟩
theorem red_gcd (N D : Nat) (hD : 0 < D) : Nat.gcd (rn N D) (rd_ N D) = 1 := Nat.coprime_div_gcd_div_gcd (Nat.gcd_pos_of_pos_right N hD)
theorem rn_le (N D : Nat) : rn N D ≤ N := Nat.div_le_self _ _
theorem rd_le (N D : Nat) : rd_ N D ≤ D := Nat.div_le_self _ _
theorem rd_pos (N D : Nat) (hD : 0 < D) : 0 < rd_ N D := Nat.div_pos (Nat.le_of_dvd hD (Nat.gcd_dvd_right N D)) (Nat.gcd_pos_of_pos_right N hD)
/-- Cross products keep their order when fractions are reduced. -/
theorem cross_lt (N1 D1 N2 D2 : Nat) (h1 : 0 < D1) (h2 : 0 < D2) : rn N1 D1 * rd_ N2 D2 < rn N2 D2 * rd_ N1 D1 ↔ N1 * D2 < N2 * D1 := by
 obtain ⟨e1, e2⟩ := red_eq N1 D1
 obtain ⟨e3, e4⟩ := red_eq N2 D2
 have g1 : 0 < Nat.gcd N1 D1 := Nat.gcd_pos_of_pos_right N1 h1
 have g2 : 0 < Nat.gcd N2 D2 := Nat.gcd_pos_of_pos_right N2 h2
 have k1 : N1 * D2 = (rn N1 D1 * rd_ N2 D2) * (Nat.gcd N1 D1 * Nat.gcd N2 D2) := by
  conv => lhs; rw [e1, e4]
  exact Nat.mul_mul_mul_comm _ _ _ _
 have k2 : N2 * D1 = (rn N2 D2 * rd_ N1 D1) * (Nat.gcd N1 D1 * Nat.gcd N2 D2) := by
  conv => lhs; rw [e3, e2]
  rw [Nat.mul_comm (Nat.gcd N1 D1)]
  exact Nat.mul_mul_mul_comm _ _ _ _
 rw [k1, k2]
 exact (Nat.mul_lt_mul_right (Nat.mul_pos g1 g2)).symm
theorem cmp_less (N1 D1 N2 D2 : Nat) (h1 : 0 < D1) (h2 : 0 < D2) (b1 : N1 ≤ 9223372036854775807) (b2 : D1 ≤ 9223372036854775807) (b3 : N2 ≤ 9223372036854775807) (b4 : D2 ≤ 9223372036854775807) (h : N1 * D2 < N2 * D1) :
  rat_Cmp.f (rn N1 D1 : Int) (rd_ N1 D1 : Int) (rn N2 D2 : Int) (rd_ N2 D2 : Int) = some (-1) := by
 have hc := (cross_lt N1 D1 N2 D2 h1 h2).2 h
 rw [cmp_nat _ _ _ _ (Nat.le_trans (rn_le _ _) b1) (Nat.le_trans (rd_le _ _) b2) (Nat.le_trans (rn_le _ _) b3) (Nat.le_trans (rd_le _ _) b4)]
 rw [if_neg (fun he => by rw [he.1, he.2] at hc; exact Nat.lt_irrefl _ hc), if_pos hc]
theorem cmp_more (N1 D1 N2 D2 : Nat) (h1 : 0 < D1) (h2 : 0 < D2) (b1 : N1 ≤ 9223372036854775807) (b2 : D1 ≤ 9223372036854775807) (b3 : N2 ≤ 9223372036854775807) (b4 : D2 ≤ 9223372036854775807) (h : N2 * D1 < N1 * D2) :
  rat_Cmp.f (rn N1 D1 : Int) (rd_ N1 D1 : Int) (rn N2 D2 : Int) (rd_ N2 D2 : Int) = some 1 := by
 have hc := (cross_lt N2 D2 N1 D1 h2 h1).2 h
 rw [cmp_nat _ _ _ _ (Nat.le_trans (rn_le _ _) b1) (Nat.le_trans (rd_le _ _) b2) (Nat.le_trans (rn_le _ _) b3) (Nat.le_trans (rd_le _ _) b4)]
 rw [if_neg (fun he => by rw [he.1, he.2] at hc; exact Nat.lt_irrefl _ hc), if_neg (by omega)]
def cr (l : List S71) (k : Int) : Nat := (look l k).f1.toNat
def cw (l : List S71) (k : Int) : Nat := (look l k).f2.toNat
theorem cr_le (l : List S71) (h : Book l) (k : Int) : cr l k ≤ 1073741824 ∧ cw l k ≤ 1073741824 := by
 have := look_small l h.2 k
 unfold small at this
 unfold cr cw
 omega
theorem of_book (l : List S71) (h : Book l) (k : Int) (hk : -9223372036854775808 ≤ k ∧ k ≤ 9223372036854775807) : odds_book_of.f l k = some (k, (cr l k : Int), (cw l k : Int)) := by
 rw [of_spec l h.1 k hk.1 hk.2, look_f0]
 have := look_nn l h.1.2 k
 unfold cr cw
 rw [Int.toNat_of_nonneg this.1, Int.toNat_of_nonneg this.2]
theorem ev_LossB (l : List S71) (h : Book l) (k : Int) (hk : -9223372036854775808 ≤ k ∧ k ≤ 9223372036854775807) (cost : Nat) (hc : cost ≤ 1073741824) : Ev (fun n => odds_Loss.f n l k (cost : Int)) ((rn ((cr l k + 1) * cost) (cr l k + cw l k + 2) : Int), (rd_ ((cr l k + 1) * cost) (cr l k + cw l k + 2) : Int), 0) := by
 have hb := cr_le l h k
 exact ev_Loss l k k (cr l k) (cw l k) cost (of_book l h k hk) hb.1 hb.2 hc
theorem ev_OfB (l : List S71) (h : Book l) (k : Int) (hk : -9223372036854775808 ≤ k ∧ k ≤ 9223372036854775807) : Ev (fun n => odds_Of.f n l k) ((rn (cr l k + 1) (cr l k + cw l k + 2) : Int), (rd_ (cr l k + 1) (cr l k + cw l k + 2) : Int)) := by
 unfold odds_Of.f
 have := ev_LossB l h k hk 1 (by omega)
 rw [Nat.mul_one] at this
 exact Ev.bind this (Ev.now _)
end Go.Proofs.Ytohnkcmbogcfhaa.R
namespace Go.Proofs.Ytohnkcmbogcfhaa.R
open Go.RowKit Go.Proofs.Ytohnkcmbogcfhaa.P Go.Proofs.YtohnkcmbogcfhaaW.PrintWords Go.Proofs.YtohnkcmbogcfhaaW.PrintLast Go.Proofs.YtohnkcmbogcfhaaW.PrintMore
theorem red_unique (p q N D : Nat) (hD : 0 < D) (hq : 0 < q) (hg : Nat.gcd p q = 1) (h : p * D = N * q) : p = rn N D ∧ q = rd_ N D := by
 obtain ⟨e1, e2⟩ := red_eq N D
 have g0 : 0 < Nat.gcd N D := Nat.gcd_pos_of_pos_right N hD
 have hr := red_gcd N D hD
 have hd := rd_pos N D hD
 have hx : p * rd_ N D = rn N D * q := by
  have h' : (p * rd_ N D) * Nat.gcd N D = (rn N D * q) * Nat.gcd N D := by
   have k1 : (p * rd_ N D) * Nat.gcd N D = p * D := by rw [Nat.mul_assoc, ← e2]
   have k2 : (rn N D * q) * Nat.gcd N D = N * q := by
    conv => rhs; rw [e1]
    rw [Nat.mul_assoc, Nat.mul_comm q, ← Nat.mul_assoc]
   rw [k1, k2, h]
  exact Nat.eq_of_mul_eq_mul_right g0 h'
 have d1 : rd_ N D ∣ q := by
  have : rd_ N D ∣ rn N D * q := ⟨p, by rw [← hx, Nat.mul_comm]⟩
  exact Nat.Coprime.dvd_of_dvd_mul_left (Nat.Coprime.symm hr) this
 have d2 : q ∣ rd_ N D := by
  have : q ∣ p * rd_ N D := ⟨rn N D, by rw [hx, Nat.mul_comm]⟩
  exact Nat.Coprime.dvd_of_dvd_mul_left (Nat.Coprime.symm hg) this
 have e : q = rd_ N D := Nat.dvd_antisymm d2 d1
 refine ⟨?_, e⟩
 rw [← e] at hx
 exact Nat.eq_of_mul_eq_mul_right hq hx
theorem hi_small (m : Nat) (h : m ≤ 18446744073709551615) : hi m = 0 := by unfold hi; omega
theorem lo_small (m : Nat) (h : m ≤ 18446744073709551615) : lo m = (m : Int) := by unfold lo; omega
theorem quot_of (a g : Nat) (ha : a ≤ 4611686018427387904) : wrap64 (Int.tdiv (a : Int) (g : Int)) = ((a / g : Nat) : Int) := by
 have e : Int.tdiv (a : Int) (g : Int) = ((a / g : Nat) : Int) := rfl
 have h1 := Nat.div_le_self a g
 rw [e]
 generalize a / g = q at h1 ⊢
 exact wrap64_of (by omega) (by omega)
theorem times_nat (a b : Nat) (ha : a ≤ 4611686018427387904) (hb : b ≤ 4611686018427387904) : rat_times.f (a : Int) (b : Int) = some (false, hi (a * b), lo (a * b)) := by
 rw [times_of _ _ (by omega) (by omega) (by omega) (by omega), decide_eq_false (by omega), decide_eq_false (by omega), Int.natAbs_natCast, Int.natAbs_natCast]
 rfl
theorem made_hilo (a b : Nat) (ha : a ≤ 4611686018427387904) (hb : b ≤ 4611686018427387904) : Ev (fun k => rat_made.f k false (hi a) (lo a) false (hi b) (lo b)) ((a : Int), (b : Int), 0) := by
 rw [hi_small a (by omega), lo_small a (by omega), hi_small b (by omega), lo_small b (by omega)]
 exact made_small false a b ha hb
theorem mul_cancel (a' b' d' e' g1 g2 : Nat) : (a' * b') * ((d' * g2) * (e' * g1)) = ((a' * g1) * (b' * g2)) * (d' * e') := by grind
/-- The product of two fractions. -/
theorem ev_Mul (an ad bn bd : Nat) (ha : an ≤ 4611686018427387904) (hd : ad ≤ 4611686018427387904) (hb : bn ≤ 4611686018427387904) (he : bd ≤ 4611686018427387904)
  (d0 : 0 < ad) (e0 : 0 < bd) (ga : Nat.gcd an ad = 1) (gb : Nat.gcd bn bd = 1) (hN : rn (an * bn) (ad * bd) ≤ 4611686018427387904) (hD : rd_ (an * bn) (ad * bd) ≤ 4611686018427387904) :
  Ev (fun k => rat_Mul.f k (an : Int) (ad : Int) (bn : Int) (bd : Int)) ((rn (an * bn) (ad * bd) : Int), (rd_ (an * bn) (ad * bd) : Int), 0) := by
 have zero : an * bn = 0 → Ev (fun k => rat_Mul.j0 k true (an : Int) (ad : Int) (bn : Int) (bd : Int)) ((rn (an * bn) (ad * bd) : Int), (rd_ (an * bn) (ad * bd) : Int), 0) := by
  intro h0
  refine Ev.succ ?_
  simp only [rat_Mul.j0]
  rw [h0]
  unfold rn rd_
  rw [Nat.gcd_zero_left, Nat.zero_div, Nat.div_self (Nat.mul_pos d0 e0)]
  exact Ev.pos trivial (Ev.cbind rfl (Ev.now _))
 unfold rat_Mul.f
 refine Ev.ite (fun c => zero ?_) (fun c => ?_)
 ·have : an = 0 := by omega
  rw [this, Nat.zero_mul]
 by_cases c2 : bn = 0
 ·rw [show ((bn : Int) == 0) = true by simp; omega]
  exact zero (by rw [c2, Nat.mul_zero])
 rw [show ((bn : Int) == 0) = false by simp; omega]
 refine Ev.succ ?_
 simp only [rat_Mul.j0]
 have g10 : 0 < Nat.gcd an bd := Nat.gcd_pos_of_pos_right _ e0
 have g20 : 0 < Nat.gcd bn ad := Nat.gcd_pos_of_pos_right _ d0
 have g1l : Nat.gcd an bd ≤ bd := Nat.le_of_dvd e0 (Nat.gcd_dvd_right _ _)
 have g2l : Nat.gcd bn ad ≤ ad := Nat.le_of_dvd d0 (Nat.gcd_dvd_right _ _)
 refine Ev.neg (by simp) (Ev.cbind (abs_of _ (by omega) (by omega)) ?_)
 rw [Int.natAbs_natCast, u64_of (n := (bd : Int)) (by omega) (by omega)]
 refine Ev.bind (gcd2 an bd) (Ev.cbind (abs_of _ (by omega) (by omega)) ?_)
 rw [Int.natAbs_natCast, u64_of (n := (ad : Int)) (by omega) (by omega)]
 refine Ev.bind (gcd2 bn ad) ?_
 rw [wrap64_of (n := (Nat.gcd an bd : Int)) (by omega) (by omega), wrap64_of (n := (Nat.gcd bn ad : Int)) (by omega) (by omega)]
 refine Ev.neg (by omega) (Ev.neg (by omega) ?_)
 rw [quot_of an _ ha, quot_of bn _ hb, quot_of ad _ hd, quot_of bd _ he]
 have q1 : an / Nat.gcd an bd * Nat.gcd an bd = an := Nat.div_mul_cancel (Nat.gcd_dvd_left _ _)
 have q2 : bn / Nat.gcd bn ad * Nat.gcd bn ad = bn := Nat.div_mul_cancel (Nat.gcd_dvd_left _ _)
 have q3 : ad / Nat.gcd bn ad * Nat.gcd bn ad = ad := Nat.div_mul_cancel (Nat.gcd_dvd_right _ _)
 have q4 : bd / Nat.gcd an bd * Nat.gcd an bd = bd := Nat.div_mul_cancel (Nat.gcd_dvd_right _ _)
 have c14 : Nat.Coprime (an / Nat.gcd an bd) (bd / Nat.gcd an bd) := Nat.coprime_div_gcd_div_gcd g10
 have c23 : Nat.Coprime (bn / Nat.gcd bn ad) (ad / Nat.gcd bn ad) := Nat.coprime_div_gcd_div_gcd g20
 have p3 : 0 < ad / Nat.gcd bn ad := Nat.div_pos g2l g20
 have p4 : 0 < bd / Nat.gcd an bd := Nat.div_pos g1l g10
 have l1 := Nat.div_le_self an (Nat.gcd an bd)
 have l2 := Nat.div_le_self bn (Nat.gcd bn ad)
 have l3 := Nat.div_le_self ad (Nat.gcd bn ad)
 have l4 := Nat.div_le_self bd (Nat.gcd an bd)
 generalize an / Nat.gcd an bd = a' at *
 generalize bn / Nat.gcd bn ad = b' at *
 generalize ad / Nat.gcd bn ad = d' at *
 generalize bd / Nat.gcd an bd = e' at *
 generalize Nat.gcd an bd = g1 at *
 generalize Nat.gcd bn ad = g2 at *
 have v1 : a' ∣ an := ⟨g1, q1.symm⟩
 have v2 : b' ∣ bn := ⟨g2, q2.symm⟩
 have v3 : d' ∣ ad := ⟨g2, q3.symm⟩
 have v4 : e' ∣ bd := ⟨g1, q4.symm⟩
 have c13 : Nat.Coprime a' d' := Nat.Coprime.coprime_dvd_left v1 (Nat.Coprime.coprime_dvd_right v3 ga)
 have c24 : Nat.Coprime b' e' := Nat.Coprime.coprime_dvd_left v2 (Nat.Coprime.coprime_dvd_right v4 gb)
 have cc : Nat.gcd (a' * b') (d' * e') = 1 := Nat.Coprime.mul_left (Nat.Coprime.mul_right c13 c14) (Nat.Coprime.mul_right c23 c24)
 have hx : (a' * b') * (ad * bd) = (an * bn) * (d' * e') := by
  rw [← q1, ← q2, ← q3, ← q4]
  exact mul_cancel a' b' d' e' g1 g2
 obtain ⟨u1, u2⟩ := red_unique (a' * b') (d' * e') (an * bn) (ad * bd) (Nat.mul_pos d0 e0) (Nat.mul_pos p3 p4) cc hx
 rw [← u1] at hN
 rw [← u2] at hD
 rw [← u1, ← u2]
 exact Ev.cbind (times_nat a' b' (by omega) (by omega)) (Ev.cbind (times_nat d' e' (by omega) (by omega)) (Ev.bind (made_hilo _ _ hN hD) (Ev.now _)))
theorem div64_small (m d : Nat) (hm : m ≤ 18446744073709551615) (hd0 : 0 < d) (hd : d ≤ 18446744073709551615) : bits_Div64.f (Int.tmod (hi m) (d : Int)) (lo m) (d : Int) = some (((m / d : Nat) : Int), ((m % d : Nat) : Int)) := by
 rw [hi_small m hm, lo_small m hm]
 unfold bits_Div64.f
 rw [Int.zero_tmod, if_pos (by omega)]
 rfl
theorem over_small (m d : Nat) (hm : m ≤ 18446744073709551615) (hd0 : 0 < d) (hd : d ≤ 18446744073709551615) : rat_wide_over.f false (hi m) (lo m) (d : Int) = some (false, hi (m / d), lo (m / d)) := by
 unfold rat_wide_over.f
 rw [if_neg (by omega), div64_small m d hm hd0 hd]
 have h1 := Nat.div_le_self m d
 rw [hi_small m hm, Int.zero_tdiv, hi_small _ (Nat.le_trans h1 hm), lo_small _ (Nat.le_trans h1 hm)]
 rfl
theorem rem_small (m d : Nat) (hm : m ≤ 18446744073709551615) (hd0 : 0 < d) (hd : d ≤ 18446744073709551615) : bits_Rem64.f (hi m) (lo m) (d : Int) = some ((m % d : Nat) : Int) := by
 unfold bits_Rem64.f
 rw [if_neg (by omega), div64_small m d hm hd0 hd]
 rfl
theorem zero_of (s : Bool) (m : Nat) (hm : m ≤ 18446744073709551615) : rat_wide_zero.f s (hi m) (lo m) = some (decide (m = 0)) := by
 unfold rat_wide_zero.f
 rw [hi_small m hm, lo_small m hm, if_pos rfl]
 congr 1
 rw [Bool.eq_iff_iff]
 simp
theorem add_cancel (an bn d1 d2 g x' h' g' : Nat) (hx : an * d2 + bn * d1 = x' * h') (hg : g = g' * h') : x' * ((d1 * g) * (d2 * g)) = (an * (d2 * g) + bn * (d1 * g)) * (d1 * (d2 * g')) := by
 have e : an * (d2 * g) + bn * (d1 * g) = (an * d2 + bn * d1) * g := by grind
 rw [e, hx, hg]
 grind
/-- The last of Add: a sum that lies below 2^64. -/
theorem ev_addTail (an ad bn bd : Nat) (hd : ad ≤ 4611686018427387904) (he : bd ≤ 4611686018427387904) (d0 : 0 < ad) (e0 : 0 < bd) (ga : Nat.gcd an ad = 1) (gb : Nat.gcd bn bd = 1)
  (hx : an * (bd / Nat.gcd ad bd) + bn * (ad / Nat.gcd ad bd) ≤ 18446744073709551615) (hN : rn (an * bd + bn * ad) (ad * bd) ≤ 4611686018427387904) (hD : rd_ (an * bd + bn * ad) (ad * bd) ≤ 4611686018427387904)
  (ha : an ≤ 4611686018427387904) (hb : bn ≤ 4611686018427387904) :
  Ev (fun k => rat_Add.f k (an : Int) (ad : Int) (bn : Int) (bd : Int)) ((rn (an * bd + bn * ad) (ad * bd) : Int), (rd_ (an * bd + bn * ad) (ad * bd) : Int), 0) := by
 unfold rat_Add.f
 rw [u64_of (n := (ad : Int)) (by omega) (by omega), u64_of (n := (bd : Int)) (by omega) (by omega)]
 refine Ev.bind (gcd2 ad bd) ?_
 have g0 : 0 < Nat.gcd ad bd := Nat.gcd_pos_of_pos_right _ e0
 have gl : Nat.gcd ad bd ≤ bd := Nat.le_of_dvd e0 (Nat.gcd_dvd_right _ _)
 rw [wrap64_of (n := (Nat.gcd ad bd : Int)) (by omega) (by omega)]
 refine Ev.neg (by omega) ?_
 simp only [quot_of ad _ hd, quot_of bd _ he]
 have q1 : ad / Nat.gcd ad bd * Nat.gcd ad bd = ad := Nat.div_mul_cancel (Nat.gcd_dvd_left _ _)
 have q2 : bd / Nat.gcd ad bd * Nat.gcd ad bd = bd := Nat.div_mul_cancel (Nat.gcd_dvd_right _ _)
 have c12 : Nat.Coprime (ad / Nat.gcd ad bd) (bd / Nat.gcd ad bd) := Nat.coprime_div_gcd_div_gcd g0
 have l1 := Nat.div_le_self ad (Nat.gcd ad bd)
 have l2 := Nat.div_le_self bd (Nat.gcd ad bd)
 have v3 : Nat.gcd ad bd ∣ bd := Nat.gcd_dvd_right _ _
 generalize ad / Nat.gcd ad bd = d1 at *
 generalize bd / Nat.gcd ad bd = d2 at *
 generalize Nat.gcd ad bd = g at *
 refine Ev.cbind (times_nat an d2 ha (by omega)) (Ev.cbind (times_nat bn d1 hb (by omega)) (Ev.cbind (plus_of false false (an * d2) (bn * d1) (by omega) (by omega)) ?_))
 simp only [if_true]
 have X0 : ∀ X, an * d2 + bn * d1 = X → X ≤ 18446744073709551615 := fun X h => by omega
 refine Ev.cbind (zero_of _ _ hx) ?_
 have hfold : an * bd + bn * ad = (an * d2 + bn * d1) * g := by rw [← q1, ← q2]; grind
 by_cases hz : an * d2 + bn * d1 = 0
 ·refine Ev.pos (decide_eq_true hz) (Ev.cbind rfl ?_)
  rw [hfold, hz, Nat.zero_mul]
  unfold rn rd_
  rw [Nat.gcd_zero_left, Nat.zero_div, Nat.div_self (Nat.mul_pos d0 e0)]
  exact Ev.now _
 refine Ev.neg (by simpa using hz) (Ev.cbind (rem_small _ g hx g0 (by omega)) (Ev.bind (gcd2 _ g) ?_))
 have hgx : Nat.gcd ((an * d2 + bn * d1) % g) g = Nat.gcd (an * d2 + bn * d1) g := by
  rw [Nat.gcd_comm (an * d2 + bn * d1) g, Nat.gcd_rec g (an * d2 + bn * d1)]
 rw [hgx]
 have h0 : 0 < Nat.gcd (an * d2 + bn * d1) g := Nat.gcd_pos_of_pos_right _ g0
 have hl : Nat.gcd (an * d2 + bn * d1) g ≤ g := Nat.le_of_dvd g0 (Nat.gcd_dvd_right _ _)
 refine Ev.cbind (over_small _ _ hx h0 (by omega)) ?_
 rw [wrap64_of (n := (Nat.gcd (an * d2 + bn * d1) g : Int)) (by omega) (by omega)]
 refine Ev.neg (by omega) ?_
 rw [quot_of bd _ he]
 have r1 : (an * d2 + bn * d1) / Nat.gcd (an * d2 + bn * d1) g * Nat.gcd (an * d2 + bn * d1) g = an * d2 + bn * d1 := Nat.div_mul_cancel (Nat.gcd_dvd_left _ _)
 have r2 : g / Nat.gcd (an * d2 + bn * d1) g * Nat.gcd (an * d2 + bn * d1) g = g := Nat.div_mul_cancel (Nat.gcd_dvd_right _ _)
 have r3 : bd / Nat.gcd (an * d2 + bn * d1) g = d2 * (g / Nat.gcd (an * d2 + bn * d1) g) := by
  rw [← q2]
  exact Nat.mul_div_assoc d2 (Nat.gcd_dvd_right _ _)
 have cxg : Nat.Coprime ((an * d2 + bn * d1) / Nat.gcd (an * d2 + bn * d1) g) (g / Nat.gcd (an * d2 + bn * d1) g) := Nat.coprime_div_gcd_div_gcd h0
 have gp : 0 < g / Nat.gcd (an * d2 + bn * d1) g := Nat.div_pos hl h0
 have l3 := Nat.div_le_self bd (Nat.gcd (an * d2 + bn * d1) g)
 have d10 : 0 < d1 := Nat.pos_of_ne_zero (fun h => by rw [h, Nat.zero_mul] at q1; omega)
 have d20 : 0 < d2 := Nat.pos_of_ne_zero (fun h => by rw [h, Nat.zero_mul] at q2; omega)
 -- the sum has nothing in common with d1 and d2
 have ca : Nat.Coprime an d1 := Nat.Coprime.coprime_dvd_right ⟨g, q1.symm⟩ ga
 have cb : Nat.Coprime bn d2 := Nat.Coprime.coprime_dvd_right ⟨g, q2.symm⟩ gb
 have cx1 : Nat.Coprime (an * d2 + bn * d1) d1 := by
  have : Nat.Coprime (an * d2) d1 := Nat.Coprime.mul_left ca (Nat.Coprime.symm c12)
  unfold Nat.Coprime at this ⊢
  rw [Nat.gcd_add_mul_right_left]
  exact this
 have cx2 : Nat.Coprime (an * d2 + bn * d1) d2 := by
  have : Nat.Coprime (bn * d1) d2 := Nat.Coprime.mul_left cb c12
  unfold Nat.Coprime at this ⊢
  rw [Nat.add_comm, Nat.gcd_add_mul_right_left]
  exact this
 rw [r3]
 rw [r3] at l3
 generalize hX : (an * d2 + bn * d1) / Nat.gcd (an * d2 + bn * d1) g = x' at *
 generalize hG : g / Nat.gcd (an * d2 + bn * d1) g = g' at *
 generalize Nat.gcd (an * d2 + bn * d1) g = h' at *
 have vx : x' ∣ an * d2 + bn * d1 := ⟨h', r1.symm⟩
 have cc : Nat.gcd x' (d1 * (d2 * g')) = 1 := Nat.Coprime.mul_right (Nat.Coprime.coprime_dvd_left vx cx1) (Nat.Coprime.mul_right (Nat.Coprime.coprime_dvd_left vx cx2) cxg)
 have hu : x' * (ad * bd) = (an * bd + bn * ad) * (d1 * (d2 * g')) := by
  have := add_cancel an bn d1 d2 g x' h' g' r1.symm r2.symm
  rw [q1, q2] at this
  exact this
 obtain ⟨u1, u2⟩ := red_unique x' (d1 * (d2 * g')) (an * bd + bn * ad) (ad * bd) (Nat.mul_pos d0 e0) (Nat.mul_pos d10 (Nat.mul_pos d20 gp)) cc hu
 rw [← u1] at hN
 rw [← u2] at hD
 rw [← u1, ← u2]
 exact Ev.cbind (times_nat d1 (d2 * g') (by omega) (by omega)) (Ev.bind (made_hilo _ _ hN hD) (Ev.now _))
end Go.Proofs.Ytohnkcmbogcfhaa.R
namespace Go.Proofs.Ytohnkcmbogcfhaa.R
open Go.RowKit Go.Proofs.Ytohnkcmbogcfhaa.P Go.Proofs.YtohnkcmbogcfhaaW.PrintWords Go.Proofs.YtohnkcmbogcfhaaW.PrintLast Go.Proofs.YtohnkcmbogcfhaaW.PrintMore
theorem red_cross (N D : Nat) : rn N D * D = N * rd_ N D := by
 obtain ⟨e1, e2⟩ := red_eq N D
 have k1 : rn N D * D = rn N D * (rd_ N D * Nat.gcd N D) := by rw [← e2]
 have k2 : N * rd_ N D = (rn N D * Nat.gcd N D) * rd_ N D := by rw [← e1]
 rw [k1, k2, Nat.mul_assoc, Nat.mul_comm (rd_ N D)]
end Go.Proofs.Ytohnkcmbogcfhaa.R
namespace Go.Proofs.Ytohnkcmbogcfhaa.R
open Go.RowKit Go.Proofs.Ytohnkcmbogcfhaa.P Go.Proofs.YtohnkcmbogcfhaaW.PrintWords Go.Proofs.YtohnkcmbogcfhaaW.PrintLast Go.Proofs.YtohnkcmbogcfhaaW.PrintMore
def u8s (l : List Int) : Prop := ∀ x ∈ l, 0 ≤ x ∧ x ≤ 255
theorem rd_byte (l : List Int) (h : u8s l) (i : Int) : 0 ≤ rd l i ∧ rd l i ≤ 255 := by
 unfold rd
 rw [List.getD_eq_getElem?_getD]
 cases e : l[i.toNat]? with
 | none => simp
 | some v => simp only [Option.getD_some]; exact h v (List.mem_of_getElem? e)
theorem rd_mod (l : List Int) (h : u8s l) (i m : Int) (hm : 0 < m) (hm2 : m ≤ 256) : wrap64 (Int.tmod (rd l i) m) = rd l i % m ∧ 0 ≤ rd l i % m ∧ rd l i % m < m := by
 have hb := rd_byte l h i
 have e := Int.tmod_eq_emod_of_nonneg (b := m) hb.1
 have h1 := Int.emod_nonneg (rd l i) (show m ≠ 0 by omega)
 have h2 := Int.emod_lt_of_pos (rd l i) hm
 rw [e, wrap64_of (by omega) (by omega)]
 exact ⟨rfl, h1, h2⟩
def bookFrom (l : List Int) : Nat → Int → List S71
 | 0, _ => []
 | d + 1, k => if 2 * k ≤ (l.length : Int) then ⟨k, rd l (2 * k - 2) % 8, rd l (2 * k - 1) % 8⟩ :: bookFrom l d (k + 1) else []
def bookL (l : List Int) : List S71 := bookFrom l 14 1
theorem book_l0 (l : List Int) (hb : u8s l) : ∀ (d : Nat) (k : Int) (acc : List S71), k + d = 15 → 1 ≤ k → acc.length + d < 100 → Ev (fun n => paroleref42_Book.l0 n l acc k) (acc ++ bookFrom l d k) := by
 intro d
 induction d with
 | zero =>
  intro k acc h1 h2 h3
  refine Ev.succ ?_
  simp only [paroleref42_Book.l0, bookFrom, List.append_nil]
  exact Ev.neg (by omega) (Ev.now _)
 | succ d ih =>
  intro k acc h1 h2 h3
  refine Ev.succ ?_
  have e1 : wrap64 (2 * k) = 2 * k := wrap64_of (by omega) (by omega)
  have e2 : wrap64 (2 * k - 2) = 2 * k - 2 := wrap64_of (by omega) (by omega)
  have e3 : wrap64 (2 * k - 1) = 2 * k - 1 := wrap64_of (by omega) (by omega)
  have e4 : wrap64 (k + 1) = k + 1 := wrap64_of (by omega) (by omega)
  simp only [paroleref42_Book.l0, bookFrom, e1, e2, e3, e4, (rd_mod l hb _ 8 (by omega) (by omega)).1]
  refine Ev.pos (by omega) ?_
  by_cases hc : 2 * k ≤ (l.length : Int)
  ·rw [if_pos hc]
   refine Ev.pos hc (Ev.pos (by omega) (Ev.pos (by omega) (Ev.pos (by omega) (Ev.pos (by omega) (Ev.pos (by omega) ?_)))))
   have := ih (k + 1) (acc ++ [⟨k, rd l (2 * k - 2) % 8, rd l (2 * k - 1) % 8⟩]) (by omega) (by omega) (by simp; omega)
   simpa using this
  ·rw [if_neg hc, List.append_nil]
   exact Ev.neg hc (Ev.now _)
theorem ev_Book (l : List Int) (hb : u8s l) : Ev (fun n => paroleref42_Book.f n l) (bookL l) := by
 have := book_l0 l hb 14 1 [] (by omega) (by omega) (by simp)
 simpa [paroleref42_Book.f, bookL] using this
def tiny (x : S71) : Prop := 0 ≤ x.f1 ∧ x.f1 < 8 ∧ 0 ≤ x.f2 ∧ x.f2 < 8
theorem bookFrom_mem (l : List Int) (hb : u8s l) : ∀ (d : Nat) (k : Int) (y : S71), y ∈ bookFrom l d k → k ≤ y.f0 ∧ y.f0 < k + d ∧ tiny y := by
 intro d
 induction d with
 | zero => intro k y h; simp [bookFrom] at h
 | succ d ih =>
  intro k y h
  simp only [bookFrom] at h
  split at h
  ·rcases List.mem_cons.1 h with rfl | h
   ·have h1 := rd_mod l hb (2 * k - 2) 8 (by omega) (by omega)
    have h2 := rd_mod l hb (2 * k - 1) 8 (by omega) (by omega)
    exact ⟨Int.le_refl _, by simp only; omega, h1.2.1, h1.2.2, h2.2.1, h2.2.2⟩
   ·have := ih (k + 1) y h
    exact ⟨by omega, by omega, this.2.2⟩
  ·simp at h
theorem bookFrom_sorted (l : List Int) (hb : u8s l) : ∀ (d : Nat) (k : Int), Sorted (bookFrom l d k) := by
 intro d
 induction d with
 | zero => intro k; exact List.Pairwise.nil
 | succ d ih =>
  intro k
  simp only [bookFrom]
  split
  ·refine List.Pairwise.cons (fun y hy => ?_) (ih (k + 1))
   have := (bookFrom_mem l hb d (k + 1) y hy).1
   simp only
   omega
  ·exact List.Pairwise.nil
def Tiny (l : List S71) : Prop := Book l ∧ ∀ x ∈ l, tiny x
theorem bookL_tiny (l : List Int) (hb : u8s l) : Tiny (bookL l) := by
 refine ⟨⟨⟨bookFrom_sorted l hb 14 1, fun x hx => ?_⟩, fun x hx => ?_⟩, fun x hx => (bookFrom_mem l hb 14 1 x hx).2.2⟩
 ·obtain ⟨h1, h2, h3, h4, h5, h6⟩ := bookFrom_mem l hb 14 1 x hx
  exact ⟨h1, by omega, h3, h5⟩
 ·obtain ⟨h1, h2, h3, h4, h5, h6⟩ := bookFrom_mem l hb 14 1 x hx
  exact ⟨by omega, by omega⟩
/-- A premium: the odds times the loss, in lowest terms. -/
def pN (l : List S71) (k : Int) (c : Nat) : Nat := rn ((cr l k + 1) * c) (cr l k + cw l k + 2)
def pD (l : List S71) (k : Int) (c : Nat) : Nat := rd_ ((cr l k + 1) * c) (cr l k + cw l k + 2)
theorem ev_premium (l : List S71) (h : Book l) (f k : Int) (hf : 0 ≤ f ∧ f < 8) (hk : 1 ≤ k ∧ k ≤ 14) (c : Nat) (hc : c ≤ 1000000) :
  Ev (fun n => price_Premium.f n l f k (c : Int)) ((pN l k c : Int), (pD l k c : Int), 0) := by
 have hb := cr_le l h k
 unfold price_Premium.f
 have hw : price_wrong.f f k (c : Int) = some false := by
  have hd : decide ((c : Int) > 1000000) = false := decide_eq_false (by omega)
  unfold price_wrong.f price_firm.f
  rw [if_pos hf.1, show decide (f < 8) = true from decide_eq_true hf.2]
  simp only [Option.bind_some, if_true]
  rw [if_neg (by omega), if_neg (by omega), if_neg (by omega), hd]
 refine Ev.cbind hw (Ev.neg (by decide) (Ev.bind (ev_OfB l h k (by omega)) (Ev.cbind (show price_whole.f (c : Int) = some ((c : Int), 1) from rfl) ?_)))
 have T0 : 0 < cr l k + cw l k + 2 := by omega
 have hp := rd_pos (cr l k + 1) (cr l k + cw l k + 2) T0
 have hg := red_gcd (cr l k + 1) (cr l k + cw l k + 2) T0
 have hn := rn_le (cr l k + 1) (cr l k + cw l k + 2)
 have hd := rd_le (cr l k + 1) (cr l k + cw l k + 2)
 have hx := red_cross (cr l k + 1) (cr l k + cw l k + 2)
 have ha : cr l k + 1 ≤ 1073741825 := by omega
 have hT : cr l k + cw l k + 2 ≤ 2147483650 := by omega
 unfold pN pD
 generalize cr l k + 1 = a at *
 generalize cr l k + cw l k + 2 = T at *
 generalize rn a T = n at *
 generalize rd_ a T = d at *
 have hD : rd_ (n * c) (d * 1) ≤ 4611686018427387904 := by have := rd_le (n * c) (d * 1); omega
 have hN : rn (n * c) (d * 1) ≤ 4611686018427387904 := by
  have := rn_le (n * c) (d * 1)
  have h2 : n * c ≤ 1073741825 * 1000000 := Nat.mul_le_mul (by omega) hc
  omega
 have hm := ev_Mul n d c 1 (by omega) (by omega) (by omega) (by omega) hp (by omega) hg (by simp) hN hD
 have hcross : rn (n * c) (d * 1) * T = a * c * rd_ (n * c) (d * 1) := by
  have h1 := red_cross (n * c) (d * 1)
  have h3 : (rn (n * c) (d * 1) * T) * d = (a * c * rd_ (n * c) (d * 1)) * d := by
   have e1 : (rn (n * c) (d * 1) * T) * d = (rn (n * c) (d * 1) * (d * 1)) * T := by grind
   rw [e1, h1]
   have e2 : n * c * rd_ (n * c) (d * 1) * T = (n * T) * (c * rd_ (n * c) (d * 1)) := by grind
   rw [e2, hx]
   grind
  exact Nat.eq_of_mul_eq_mul_right hp h3
 obtain ⟨u1, u2⟩ := red_unique _ _ (a * c) T T0 (rd_pos _ _ (by omega)) (red_gcd (n * c) (d * 1) (by omega)) hcross
 rw [← u1, ← u2]
 exact Ev.bind hm (Ev.now _)
theorem ev_premium42 (l : List S71) (h : Book l) (f k : Int) (hf : 0 ≤ f ∧ f < 8) (hk : 1 ≤ k ∧ k ≤ 14) (c : Nat) (hc : c ≤ 1000000) :
  Ev (fun n => parolelaw42_premium.f n l f k (c : Int)) ((pN l k c : Int), (pD l k c : Int), 0) := by
 unfold parolelaw42_premium.f
 exact Ev.bind (ev_premium l h f k hf hk c hc) (Ev.now _)
theorem whole_red (c : Nat) : rn c 1 = c ∧ rd_ c 1 = 1 := by unfold rn rd_; simp
end Go.Proofs.Ytohnkcmbogcfhaa.R
namespace Go.Proofs.Ytohnkcmbogcfhaa.R
open Go.RowKit Go.Proofs.Ytohnkcmbogcfhaa.P Go.Proofs.YtohnkcmbogcfhaaW.PrintWords Go.Proofs.YtohnkcmbogcfhaaW.PrintLast Go.Proofs.YtohnkcmbogcfhaaW.PrintMore
theorem firm_of (a : Int) : price_firm.f a = some (decide (0 ≤ a) && decide (a < 8)) := by
 unfold price_firm.f
 by_cases h : 0 ≤ a
 ·rw [if_pos h, decide_eq_true h]; rfl
 ·rw [if_neg h, decide_eq_false h]; rfl
/-- Risks out of bytes. -/
def risksFrom (l : List Int) : Nat → Int → List S47
 | 0, _ => []
 | d + 1, i => if 3 * i + 2 < (l.length : Int) then ⟨rd l (3 * i) % 4, 1 + rd l (3 * i + 1) % 14, rd l (3 * i + 2)⟩ :: risksFrom l d (i + 1) else []
def risksL (l : List Int) : List S47 := risksFrom l 12 0
theorem risks_l0 (l : List Int) (hb : u8s l) : ∀ (d : Nat) (i : Int) (acc : List S47), i + d = 12 → 0 ≤ i → acc.length + d < 100 → Ev (fun n => paroleref42_Risks.l0 n l acc i) (acc ++ risksFrom l d i) := by
 intro d
 induction d with
 | zero =>
  intro i acc h1 h2 h3
  refine Ev.succ ?_
  simp only [paroleref42_Risks.l0, risksFrom, List.append_nil]
  exact Ev.ite (fun _ => Ev.neg (by omega) (Ev.now _)) (fun _ => Ev.now _)
 | succ d ih =>
  intro i acc h1 h2 h3
  refine Ev.succ ?_
  have e1 : wrap64 (3 * i) = 3 * i := wrap64_of (by omega) (by omega)
  have e2 : wrap64 (3 * i + 1) = 3 * i + 1 := wrap64_of (by omega) (by omega)
  have e3 : wrap64 (3 * i + 2) = 3 * i + 2 := wrap64_of (by omega) (by omega)
  have e4 : wrap64 (i + 1) = i + 1 := wrap64_of (by omega) (by omega)
  have r1 := rd_mod l hb (3 * i) 4 (by omega) (by omega)
  have r2 := rd_mod l hb (3 * i + 1) 14 (by omega) (by omega)
  have r3 := rd_byte l hb (3 * i + 2)
  have e5 : wrap64 (1 + rd l (3 * i + 1) % 14) = 1 + rd l (3 * i + 1) % 14 := wrap64_of (by omega) (by omega)
  have e6 : wrap64 (rd l (3 * i + 2)) = rd l (3 * i + 2) := wrap64_of (by omega) (by omega)
  simp only [paroleref42_Risks.l0, risksFrom, e1, e2, e3, e4, r1.1, r2.1, e5, e6]
  by_cases hc : 3 * i + 2 < (l.length : Int)
  ·rw [if_pos hc]
   refine Ev.pos hc (Ev.pos (by omega) (Ev.pos (by omega) (Ev.pos (by omega) (Ev.pos (by omega) (Ev.pos (by omega) (Ev.pos (by omega) (Ev.pos (by omega) ?_)))))))
   have := ih (i + 1) (acc ++ [⟨rd l (3 * i) % 4, 1 + rd l (3 * i + 1) % 14, rd l (3 * i + 2)⟩]) (by omega) (by omega) (by simp; omega)
   simpa using this
  ·rw [if_neg hc, List.append_nil]
   exact Ev.neg hc (Ev.now _)
theorem ev_Risks (l : List Int) (hb : u8s l) : Ev (fun n => paroleref42_Risks.f n l) (risksL l) := by
 have := risks_l0 l hb 12 0 [] (by omega) (by omega) (by simp)
 simpa [paroleref42_Risks.f, risksL] using this
def lightR (x : S47) : Prop := 0 ≤ x.f0 ∧ x.f0 < 4 ∧ 1 ≤ x.f1 ∧ x.f1 ≤ 14 ∧ 0 ≤ x.f2 ∧ x.f2 ≤ 255
theorem risksFrom_mem (l : List Int) (hb : u8s l) : ∀ (d : Nat) (i : Int) (y : S47), y ∈ risksFrom l d i → lightR y := by
 intro d
 induction d with
 | zero => intro i y h; simp [risksFrom] at h
 | succ d ih =>
  intro i y h
  simp only [risksFrom] at h
  split at h
  ·rcases List.mem_cons.1 h with rfl | h
   ·have r1 := rd_mod l hb (3 * i) 4 (by omega) (by omega)
    have r2 := rd_mod l hb (3 * i + 1) 14 (by omega) (by omega)
    have r3 := rd_byte l hb (3 * i + 2)
    unfold lightR
    simp only
    omega
   ·exact ih (i + 1) y h
  ·simp at h
theorem risksFrom_length (l : List Int) : ∀ (d : Nat) (i : Int), (risksFrom l d i).length ≤ d := by
 intro d
 induction d with
 | zero => intro i; simp [risksFrom]
 | succ d ih =>
  intro i
  simp only [risksFrom]
  split
  ·simp only [List.length_cons]; have := ih (i + 1); omega
  ·simp
theorem risksL_light (l : List Int) (hb : u8s l) : (∀ x ∈ risksL l, lightR x) ∧ (risksL l).length ≤ 12 := ⟨fun x hx => risksFrom_mem l hb 12 0 x hx, risksFrom_length l 12 0⟩
end Go.Proofs.Ytohnkcmbogcfhaa.R
namespace Go.Proofs.Ytohnkcmbogcfhaa.R
open Go.RowKit Go.Proofs.Ytohnkcmbogcfhaa.P Go.Proofs.YtohnkcmbogcfhaaW.PrintWords Go.Proofs.YtohnkcmbogcfhaaW.PrintLast Go.Proofs.YtohnkcmbogcfhaaW.PrintMore
/-- Fractions over one denominator. -/
theorem rn_scale (a T m : Nat) (hT : 0 < T) (hm : 0 < m) : rn (a * m) (T * m) = rn a T ∧ rd_ (a * m) (T * m) = rd_ a T := by
 obtain ⟨u, v⟩ := red_unique (rn (a * m) (T * m)) (rd_ (a * m) (T * m)) a T hT (rd_pos _ _ (Nat.mul_pos hT hm)) (red_gcd _ _ (Nat.mul_pos hT hm)) (by
  have h1 := red_cross (a * m) (T * m)
  have h2 : (rn (a * m) (T * m) * T) * m = (a * rd_ (a * m) (T * m)) * m := by grind
  exact Nat.eq_of_mul_eq_mul_right hm h2)
 exact ⟨u, v⟩
theorem ev_addM (M V P : Nat) (hM : 0 < M) (hM2 : M ≤ 1048576) (hV : V ≤ 1099511627776) (hP : P ≤ 1099511627776) :
  Ev (fun k => rat_Add.f k (rn V M : Int) (rd_ V M : Int) (rn P M : Int) (rd_ P M : Int)) ((rn (V + P) M : Int), (rd_ (V + P) M : Int), 0) := by
 have x1 := red_cross V M
 have x2 := red_cross P M
 have p1 := rd_pos V M hM
 have p2 := rd_pos P M hM
 have g1 := red_gcd V M hM
 have g2 := red_gcd P M hM
 have l1 := rn_le V M
 have l2 := rn_le P M
 have l3 := rd_le V M
 have l4 := rd_le P M
 generalize rn V M = an at *
 generalize rd_ V M = ad at *
 generalize rn P M = bn at *
 generalize rd_ P M = bd at *
 have hc : rn (V + P) M * (ad * bd) = (an * bd + bn * ad) * rd_ (V + P) M := by
  have h1 := red_cross (V + P) M
  have h2 : (rn (V + P) M * (ad * bd)) * M = ((an * bd + bn * ad) * rd_ (V + P) M) * M := by
   have e1 : (rn (V + P) M * (ad * bd)) * M = (rn (V + P) M * M) * (ad * bd) := by grind
   have e2 : ((an * bd + bn * ad) * rd_ (V + P) M) * M = ((an * M) * bd + (bn * M) * ad) * rd_ (V + P) M := by grind
   rw [e1, e2, h1, x1, x2]
   grind
  exact Nat.eq_of_mul_eq_mul_right hM h2
 obtain ⟨u1, u2⟩ := red_unique (rn (V + P) M) (rd_ (V + P) M) (an * bd + bn * ad) (ad * bd) (Nat.mul_pos p1 p2) (rd_pos _ _ hM) (red_gcd _ _ hM) hc
 have m1 : an * (bd / Nat.gcd ad bd) ≤ 1099511627776 * 1048576 := Nat.mul_le_mul (by omega) (Nat.le_trans (Nat.div_le_self _ _) (by omega))
 have m2 : bn * (ad / Nat.gcd ad bd) ≤ 1099511627776 * 1048576 := Nat.mul_le_mul (by omega) (Nat.le_trans (Nat.div_le_self _ _) (by omega))
 have l5 := rn_le (V + P) M
 have l6 := rd_le (V + P) M
 rw [u1, u2]
 rw [u1] at l5
 rw [u2] at l6
 exact ev_addTail an ad bn bd (by omega) (by omega) p1 p2 g1 g2 (by omega) (by omega) (by omega) (by omega) (by omega)
theorem cmp_M (M V P : Nat) (hM : 0 < M) (hM2 : M ≤ 1048576) (hV : V ≤ 1099511627776) (hP : P ≤ 1099511627776) :
  rat_Cmp.f (rn V M : Int) (rd_ V M : Int) (rn P M : Int) (rd_ P M : Int) = some (if V = P then 0 else if V < P then -1 else 1) := by
 by_cases h : V = P
 ·subst h
  rw [cmp_nat _ _ _ _ (Nat.le_trans (rn_le _ _) (by omega)) (Nat.le_trans (rd_le _ _) (by omega)) (Nat.le_trans (rn_le _ _) (by omega)) (Nat.le_trans (rd_le _ _) (by omega))]
  simp
 ·rw [if_neg h]
  by_cases hl : V < P
  ·rw [if_pos hl]
   exact cmp_less V M P M hM hM (by omega) (by omega) (by omega) (by omega) (Nat.mul_lt_mul_of_pos_right hl hM)
  ·rw [if_neg hl]
   exact cmp_more V M P M hM hM (by omega) (by omega) (by omega) (by omega) (Nat.mul_lt_mul_of_pos_right (by omega) hM)
end Go.Proofs.Ytohnkcmbogcfhaa.R
namespace Go.Proofs.Ytohnkcmbogcfhaa.R
open Go.RowKit Go.Proofs.Ytohnkcmbogcfhaa.P Go.Proofs.YtohnkcmbogcfhaaW.PrintWords Go.Proofs.YtohnkcmbogcfhaaW.PrintLast Go.Proofs.YtohnkcmbogcfhaaW.PrintMore
theorem div_M (T : Nat) (h1 : 1 ≤ T) (h2 : T ≤ 16) : T * (720720 / T) = 720720 ∧ 0 < 720720 / T := by
 have := (by decide : ∀ t : Fin 17, t.val = 0 ∨ (t.val * (720720 / t.val) = 720720 ∧ 0 < 720720 / t.val)) ⟨T, by omega⟩
 rcases this with h | h
 ·simp only at h; omega
 ·exact h
theorem tiny_cr (b : List S71) (h : Tiny b) (k : Int) : cr b k < 8 ∧ cw b k < 8 := by
 unfold cr cw
 by_cases hk : has b k = true
 ·have := h.2 _ (look_mem b k hk)
  unfold tiny at this
  omega
 ·rw [look_not b k (by simpa using hk)]
  simp
/-- A risk that is right, of a small loss. -/
def okR (x : S47) : Prop := 0 ≤ x.f0 ∧ x.f0 < 8 ∧ 1 ≤ x.f1 ∧ x.f1 ≤ 14 ∧ 0 ≤ x.f2 ∧ x.f2 ≤ 256
theorem light_ok {x : S47} (h : lightR x) : okR x := by unfold lightR at h; unfold okR; omega
/-- A premium, in parts of 1/720720. -/
def PV (b : List S71) (x : S47) : Nat := (cr b x.f1 + 1) * x.f2.toNat * (720720 / (cr b x.f1 + cw b x.f1 + 2))
theorem PV_le (b : List S71) (h : Tiny b) (x : S47) (hx : okR x) : PV b x ≤ 1000000000 := by
 have hc := tiny_cr b h x.f1
 unfold okR at hx
 unfold PV
 have h1 : (cr b x.f1 + 1) * x.f2.toNat ≤ 8 * 256 := Nat.mul_le_mul (by omega) (by omega)
 have h2 : 720720 / (cr b x.f1 + cw b x.f1 + 2) ≤ 720720 / 2 := Nat.div_le_div_left (by omega) (by omega)
 have h3 := Nat.mul_le_mul h1 h2
 omega
theorem PV_red (b : List S71) (h : Tiny b) (x : S47) : pN b x.f1 x.f2.toNat = rn (PV b x) 720720 ∧ pD b x.f1 x.f2.toNat = rd_ (PV b x) 720720 := by
 have hc := tiny_cr b h x.f1
 have hd := div_M (cr b x.f1 + cw b x.f1 + 2) (by omega) (by omega)
 have := rn_scale ((cr b x.f1 + 1) * x.f2.toNat) (cr b x.f1 + cw b x.f1 + 2) (720720 / (cr b x.f1 + cw b x.f1 + 2)) (by omega) hd.2
 rw [hd.1] at this
 unfold pN pD PV
 exact ⟨this.1.symm, this.2.symm⟩
theorem ev_prem (b : List S71) (h : Tiny b) (x : S47) (hx : okR x) : Ev (fun k => price_Premium.f k b x.f0 x.f1 x.f2) ((rn (PV b x) 720720 : Int), (rd_ (PV b x) 720720 : Int), 0) := by
 have hr := PV_red b h x
 unfold okR at hx
 have e : ((x.f2.toNat : Nat) : Int) = x.f2 := Int.toNat_of_nonneg hx.2.2.2.2.1
 have := ev_premium b h.1 x.f0 x.f1 (by omega) (by omega) x.f2.toNat (by omega)
 rw [e, hr.1, hr.2] at this
 exact this
def sumP (b : List S71) : List S47 → Nat
 | [] => 0
 | x :: l => PV b x + sumP b l
theorem ev_bondL (b : List S71) (h : Tiny b) : ∀ (l : List S47), (∀ x ∈ l, okR x) → ∀ V : Nat, V + l.length * 1000000000 ≤ 1099511627776 →
  Ev (fun k => bondL k b l (rn V 720720 : Int) (rd_ V 720720 : Int)) ((rn (V + sumP b l) 720720 : Int), (rd_ (V + sumP b l) 720720 : Int), 0) := by
 intro l
 induction l with
 | nil => intro _ V _; exact Ev.now _
 | cons x l ih =>
  intro hl V hV
  have hx := hl x (List.mem_cons_self)
  have hp := PV_le b h x hx
  simp only [List.length_cons] at hV
  simp only [bondL, sumP]
  refine Ev.bind (ev_prem b h x hx) (Ev.bind (ev_addM 720720 V (PV b x) (by omega) (by omega) (by omega) (by omega)) (Ev.pos rfl ?_))
  have := ih (fun y hy => hl y (List.mem_cons_of_mem _ hy)) (V + PV b x) (by omega)
  rw [Nat.add_assoc] at this
  exact this
theorem sumP_le (b : List S71) (h : Tiny b) : ∀ (l : List S47), (∀ x ∈ l, okR x) → sumP b l ≤ l.length * 1000000000 := by
 intro l
 induction l with
 | nil => intro _; exact Nat.zero_le _
 | cons x l ih =>
  intro hl
  have h1 := PV_le b h x (hl x (List.mem_cons_self))
  have h2 := ih (fun y hy => hl y (List.mem_cons_of_mem _ hy))
  simp only [sumP, List.length_cons]
  omega
theorem bound_all {α : Type} (p : Nat → α → Prop) : ∀ (L : List α), (∀ x ∈ L, ∃ K, ∀ k, K ≤ k → p k x) → ∃ K, ∀ k, K ≤ k → ∀ x ∈ L, p k x := by
 intro L
 induction L with
 | nil => intro _; exact ⟨0, fun k _ x hx => by cases hx⟩
 | cons a L ih =>
  intro h
  obtain ⟨K1, h1⟩ := h a (List.mem_cons_self)
  obtain ⟨K2, h2⟩ := ih (fun x hx => h x (List.mem_cons_of_mem _ hx))
  refine ⟨max K1 K2, fun k hk x hx => ?_⟩
  rcases List.mem_cons.1 hx with rfl | hx
  ·exact h1 k (by omega)
  ·exact h2 k (by omega) x hx
theorem ev_bondT (b : List S71) (h : Tiny b) (L : List S47) (hL : ∀ x ∈ L, okR x) : ∀ (m V : Nat), V + m * 1000000000 ≤ 1099511627776 →
  ∃ K, ∀ k, K ≤ k → bondT k b L m (rn V 720720 : Int) (rd_ V 720720 : Int) = true := by
 intro m
 induction m with
 | zero => intro V _; exact ⟨0, fun k _ => rfl⟩
 | succ m ih =>
  intro V hV
  obtain ⟨K, hK⟩ := bound_all (fun k (x : S47) => ∃ p s, price_Premium.f k b x.f0 x.f1 x.f2 = some p ∧ rat_Add.f k (rn V 720720 : Int) (rd_ V 720720 : Int) p.1 p.2.1 = some s ∧ (s.2.2 = 0 → bondT k b L m s.1 s.2.1 = true)) L (fun x hx => by
   have hp := PV_le b h x (hL x hx)
   obtain ⟨K1, h1⟩ := ev_prem b h x (hL x hx)
   obtain ⟨K2, h2⟩ := ev_addM 720720 V (PV b x) (by omega) (by omega) (by omega) (by omega)
   obtain ⟨K3, h3⟩ := ih (V + PV b x) (by omega)
   exact ⟨max K1 (max K2 K3), fun k hk => ⟨_, _, h1 k (by omega), h2 k (by omega), fun _ => h3 k (by omega)⟩⟩)
  exact ⟨K, fun k hk => (bondT_spec k b L m _ _).2 (hK k hk)⟩
theorem wrong_no (x : S47) (hx : okR x) : price_wrong.f x.f0 x.f1 x.f2 = some false := by
 unfold okR at hx
 unfold price_wrong.f
 rw [firm_of, decide_eq_true hx.1, decide_eq_true hx.2.1]
 simp only [Bool.and_self, Option.bind_some, if_true]
 rw [if_neg (by omega), if_neg (by omega), if_neg (by omega), decide_eq_false (by omega)]
theorem risk115 (l : List S47) (hl : l.length < 1000000000000) (ho : ∀ x ∈ l, okR x) : ∀ (d i : Nat), i + d = l.length → Ev (fun k => api_Risk_115.l0 k l (l.length : Int) (i : Int)) (-1) := by
 intro d
 induction d with
 | zero =>
  intro i h
  refine Ev.succ ?_
  simp only [api_Risk_115.l0]
  exact Ev.neg (by omega) (Ev.now _)
 | succ d ih =>
  intro i h
  have hi : i < l.length := by omega
  have er : rd_T47 l (i : Int) = l[i] := by unfold rd_T47; simp [hi]
  have hw : wrap64 ((i : Int) + 1) = ((i + 1 : Nat) : Int) := by rw [wrap64_of (by omega) (by omega)]; omega
  refine Ev.succ ?_
  simp only [api_Risk_115.l0, er, hw]
  exact Ev.pos (by omega) (Ev.pos (by omega) (Ev.pos (by omega) (Ev.cbind (wrong_no _ (ho _ (List.getElem_mem hi))) (Ev.neg (by decide) (ih (i + 1) (by omega))))))
theorem ev_norisk (l : List S47) (hl : l.length < 1000000000000) (ho : ∀ x ∈ l, okR x) : Ev (fun k => api_Risk_96.f k l) false := by
 unfold api_Risk_96.f api_Risk_115.f
 exact Ev.bind (risk115 l hl ho l.length 0 (by omega)) (Ev.now _)
/-- A bond, in parts of 1/720720. -/
def SV (b : List S71) (l : List S47) (f : Int) (base : Nat) : Nat := base * 720720 + sumP b (ofF l f)
theorem ofF_ok (l : List S47) (ho : ∀ x ∈ l, okR x) (f : Int) : ∀ x ∈ ofF l f, okR x := fun x hx => ho x ((List.mem_filter.1 hx).1)
theorem ofF_length (l : List S47) (f : Int) : (ofF l f).length ≤ l.length := List.length_filter_le _ _
theorem SV_le (b : List S71) (h : Tiny b) (l : List S47) (ho : ∀ x ∈ l, okR x) (hl : l.length ≤ 20) (f : Int) (base : Nat) (hb : base ≤ 65535) : SV b l f base ≤ 100000000000 := by
 have h1 := sumP_le b h (ofF l f) (ofF_ok l ho f)
 have h2 := ofF_length l f
 unfold SV
 omega
theorem ev_bond (b : List S71) (h : Tiny b) (l : List S47) (ho : ∀ x ∈ l, okR x) (hl : l.length ≤ 20) (f : Int) (hf : 0 ≤ f ∧ f < 8) (base : Nat) (hb : base ≤ 65535) :
  Ev (fun k => price_Bond.f k b l f (base : Int)) ((rn (SV b l f base) 720720 : Int), (rd_ (SV b l f base) 720720 : Int), 0) := by
 unfold price_Bond.f
 have h2 := ofF_length l f
 have hbase : rn (base * 720720) 720720 = base ∧ rd_ (base * 720720) 720720 = 1 := by
  have := rn_scale base 1 720720 (by omega) (by omega)
  rw [Nat.one_mul] at this
  rw [this.1, this.2]
  exact whole_red base
 refine Ev.neg (by omega) (Ev.bind (ev_norisk l (by omega) ho) (Ev.neg (by decide) ?_))
 obtain ⟨K1, h1⟩ := ev_bondT b h (ofF l f) (ofF_ok l ho f) (ofF l f).length (base * 720720) (by omega)
 obtain ⟨K2, h3⟩ := ev_bondL b h (ofF l f) (ofF_ok l ho f) (base * 720720) (by omega)
 rw [hbase.1, hbase.2] at h1 h3
 exact ⟨max K1 K2, fun k hk => by
  rw [show ((1 : Nat) : Int) = 1 from rfl] at h1 h3
  exact (if_pos (h1 k (by omega))).trans (h3 k (by omega))⟩
theorem ev_bond42 (b : List S71) (h : Tiny b) (l : List S47) (ho : ∀ x ∈ l, okR x) (hl : l.length ≤ 20) (f : Int) (hf : 0 ≤ f ∧ f < 8) (base : Nat) (hb : base ≤ 65535) :
  Ev (fun k => parolelaw42_bond.f k b l f (base : Int)) ((rn (SV b l f base) 720720 : Int), (rd_ (SV b l f base) 720720 : Int), 0) := by
 unfold parolelaw42_bond.f
 exact Ev.bind (ev_bond b h l ho hl f hf base hb) (Ev.now _)
/-- Opened accounts. -/
def acc (b : List S71) (l : List S47) (base : Nat) (f : Int) : S60 := ⟨f, ⟨(rn (SV b l f base) 720720 : Int), (rd_ (SV b l f base) 720720 : Int)⟩⟩
end Go.Proofs.Ytohnkcmbogcfhaa.R
namespace Go.Proofs.Ytohnkcmbogcfhaa.Pure
open Go.RowKit Go.Proofs.Ytohnkcmbogcfhaa.P Go.Proofs.Ytohnkcmbogcfhaa.R Go.Proofs.YtohnkcmbogcfhaaW.PrintWords Go.Proofs.YtohnkcmbogcfhaaW.PrintLast
theorem sumP_more (b : List S71) : ∀ (l : List S47) (x : S47), sumP b (l ++ [x]) = sumP b l + PV b x := by
 intro l x
 induction l with
 | nil => simp [sumP]
 | cons y l ih => simp only [List.cons_append, sumP, ih]; omega
theorem SV_more (b : List S71) (l : List S47) (x : S47) (f : Int) (base : Nat) : SV b (l ++ [x]) f base = SV b l f base + if x.f0 = f then PV b x else 0 := by
 unfold SV ofF
 rw [List.filter_append]
 by_cases h : x.f0 = f
 ·rw [if_pos h, show List.filter (fun y : S47 => y.f0 == f) [x] = [x] by simp [h], sumP_more, Nat.add_assoc]
 ·rw [if_neg h, show List.filter (fun y : S47 => y.f0 == f) [x] = [] by simp [h], List.append_nil, Nat.add_zero]
theorem bind_none {α β : Type} (o : Option α) (f : α → Option β) (h : ∀ x, f x = none) : o.bind f = none := by
 cases o with
 | none => rfl
 | some x => exact h x
theorem ite_none {α : Type} {c : Prop} [Decidable c] {a b : Option α} (h : a = none) (h' : b = none) : (if c then a else b) = none := by
 split <;> assumption
/-- Another firm: the first part says nothing. -/
theorem bonds_other (k : Nat) (l0 l1 : List Int) (b a c f : Int) (h : ¬ (wrap64 (Int.tmod f 8)) = (wrap64 (Int.tmod a 4))) : parolelaw42_PriceBondsA.f k l0 l1 b a c f = none := by
 unfold parolelaw42_PriceBondsA.f
 simp only [if_neg h]
 rw [show parolelaw42_examples.f = some true from rfl]
 simp only [Option.bind_some, if_true]
 refine bind_none _ _ (fun _ => bind_none _ _ (fun _ => ite_none (ite_none (bind_none _ _ (fun _ => bind_none _ _ (fun _ => bind_none _ _ (fun _ => rfl)))) rfl) rfl))
theorem base_M (base : Nat) : rn (base * 720720) 720720 = base ∧ rd_ (base * 720720) 720720 = 1 := by
 have := rn_scale base 1 720720 (by omega) (by omega)
 rw [Nat.one_mul] at this
 rw [this.1, this.2]
 exact whole_red base
theorem PriceBonds : parolelaw42_PriceBonds.Pure := by
 intro l0_0 l0_1 a0_2 a1_0 a1_1 a2 h0 h1 h2
 have hb0 : u8s l0_0 := fun x hx => wf_u8 (h0.1.2 x hx)
 have hb1 : u8s l0_1 := fun x hx => wf_u8 (h0.2.1.2 x hx)
 have hbase := wf_u16 h0.2.2
 have g0 := wf_u8 h1.1
 have g1 := wf_u8 h1.2
 have g2 := wf_u8 h2
 obtain ⟨base, eb⟩ := Int.eq_ofNat_of_zero_le hbase.1
 subst eb
 obtain ⟨a, ea⟩ := Int.eq_ofNat_of_zero_le g0.1
 subst ea
 obtain ⟨c, ec⟩ := Int.eq_ofNat_of_zero_le g1.1
 subst ec
 obtain ⟨f, ef⟩ := Int.eq_ofNat_of_zero_le g2.1
 subst ef
 have w1 : wrap64 (base : Int) = (base : Int) := wrap64_of (by omega) (by omega)
 have w2 : wrap64 (c : Int) = (c : Int) := wrap64_of (by omega) (by omega)
 have w3 : wrap64 (Int.tmod (a : Int) 4) = ((a % 4 : Nat) : Int) := by
  have e : Int.tmod (a : Int) 4 = ((a % 4 : Nat) : Int) := rfl
  rw [e, wrap64_of (by omega) (by omega)]
 have w4 : wrap64 (Int.tmod (f : Int) 8) = ((f % 8 : Nat) : Int) := by
  have e : Int.tmod (f : Int) 8 = ((f % 8 : Nat) : Int) := rfl
  rw [e, wrap64_of (by omega) (by omega)]
 have w5 : 1 + (((Int.tdiv (a : Int) 4) % 256) % 14) = ((1 + a / 4 % 256 % 14 : Nat) : Int) := by
  have e : Int.tdiv (a : Int) 4 = ((a / 4 : Nat) : Int) := rfl
  rw [e]; omega
 have hT := bookL_tiny l0_0 hb0
 have hR := risksL_light l0_1 hb1
 have e0 := ev_Book l0_0 hb0
 have e1 := ev_Risks l0_1 hb1
 have q1 : a % 4 < 4 := Nat.mod_lt _ (by omega)
 have q2 : f % 8 < 8 := Nat.mod_lt _ (by omega)
 have q3 : 1 ≤ 1 + a / 4 % 256 % 14 ∧ 1 + a / 4 % 256 % 14 ≤ 14 := by have := Nat.mod_lt (a / 4 % 256) (show 0 < 14 by omega); omega
 have q4 : c ≤ 255 := by omega
 have q5 : base ≤ 65535 := by omega
 by_cases hf : (wrap64 (Int.tmod (f : Int) 8)) = (wrap64 (Int.tmod (a : Int) 4))
 ·have hA : Ev (fun k => parolelaw42_PriceBondsA.f k l0_0 l0_1 (base : Int) (a : Int) (c : Int) (f : Int)) true := by
   unfold parolelaw42_PriceBondsA.f
   rw [w3, w4] at hf
   simp only [w1, w2, w3, w4, w5]
   clear w1 w2 w3 w4 w5
   generalize 1 + a / 4 % 256 % 14 = kd at q3 ⊢
   generalize a % 4 = m at q1 hf ⊢
   generalize f % 8 = g at q2 hf ⊢
   refine Ev.cbind rfl (Ev.pos rfl (Ev.bind e0 (Ev.bind e1 ?_)))
   generalize bookL l0_0 = B at hT ⊢
   generalize risksL l0_1 = L at hR ⊢
   have ho : ∀ x ∈ L, okR x := fun x hx => light_ok (hR.1 x hx)
   have hx : okR ⟨(m : Int), (kd : Int), (c : Int)⟩ := by unfold okR; simp only; omega
   have ho2 : ∀ x ∈ L ++ [(⟨(m : Int), (kd : Int), (c : Int)⟩ : S47)], okR x := by
    intro x hx'
    rcases List.mem_append.1 hx' with h | h
    ·exact ho x h
    ·rw [List.mem_singleton] at h; rw [h]; exact hx
   have b1 := ev_bond42 B hT L ho (by omega) (g : Int) (by omega) base (by omega)
   have b2 := ev_bond42 B hT (L ++ [(⟨(m : Int), (kd : Int), (c : Int)⟩ : S47)]) ho2 (by simp; omega) (g : Int) (by omega) base (by omega)
   have p0 := ev_premium42 B hT.1 (m : Int) (kd : Int) (by omega) (by omega) c (by omega)
   have pr := PV_red B hT (⟨(m : Int), (kd : Int), (c : Int)⟩ : S47)
   simp only [Int.toNat_natCast] at pr
   rw [pr.1, pr.2] at p0
   have hV := SV_le B hT L ho (by omega) (g : Int) base (by omega)
   have hP := PV_le B hT _ hx
   rw [SV_more, if_pos (show (m : Int) = (g : Int) by omega)] at b2
   have ha := ev_addM 720720 (SV B L (g : Int) base) (PV B ⟨(m : Int), (kd : Int), (c : Int)⟩) (by omega) (by omega) (by omega) (by omega)
   have hle : base * 720720 ≤ SV B L (g : Int) base := Nat.le_add_right _ _
   have hcmp := cmp_M 720720 (base * 720720) (SV B L (g : Int) base) (by omega) (by omega) (by omega) (by omega)
   rw [(base_M base).1, (base_M base).2] at hcmp
   generalize SV B L (g : Int) base = V at *
   generalize PV B ⟨(m : Int), (kd : Int), (c : Int)⟩ = P at *
   refine Ev.cbind rfl (Ev.pos (by simp; omega) (Ev.cbind rfl (Ev.cbind rfl (Ev.pos (by simp; omega) (Ev.bind b1 (Ev.bind b2 (Ev.bind p0 (Ev.pos hf (Ev.pos rfl (Ev.bind ha (Ev.pos rfl (Ev.pos ?_ (Ev.cbind rfl (Ev.cbind hcmp ?_))))))))))))))
   ·simp
   ·refine Ev.pos ?_ (Ev.now _)
    split
    ·decide
    ·rw [if_pos (by omega)]; decide
  obtain ⟨k, hk⟩ := hA.rounds
  exact ⟨k, by unfold parolelaw42_PriceBonds.f; rw [hk]⟩
 ·have hB : Ev (fun k => parolelaw42_PriceBondsB.f k l0_0 l0_1 (base : Int) (a : Int) (c : Int) (f : Int)) true := by
   unfold parolelaw42_PriceBondsB.f
   rw [w3, w4] at hf
   simp only [w1, w2, w3, w4, w5]
   clear w1 w2 w3 w4 w5
   generalize 1 + a / 4 % 256 % 14 = kd at q3 ⊢
   generalize a % 4 = m at q1 hf ⊢
   generalize f % 8 = g at q2 hf ⊢
   refine Ev.cbind rfl (Ev.pos rfl (Ev.bind e0 (Ev.bind e1 ?_)))
   generalize bookL l0_0 = B at hT ⊢
   generalize risksL l0_1 = L at hR ⊢
   have ho : ∀ x ∈ L, okR x := fun x hx => light_ok (hR.1 x hx)
   have hx : okR ⟨(m : Int), (kd : Int), (c : Int)⟩ := by unfold okR; simp only; omega
   have ho2 : ∀ x ∈ L ++ [(⟨(m : Int), (kd : Int), (c : Int)⟩ : S47)], okR x := by
    intro x hx'
    rcases List.mem_append.1 hx' with h | h
    ·exact ho x h
    ·rw [List.mem_singleton] at h; rw [h]; exact hx
   have b1 := ev_bond42 B hT L ho (by omega) (g : Int) (by omega) base (by omega)
   have b2 := ev_bond42 B hT (L ++ [(⟨(m : Int), (kd : Int), (c : Int)⟩ : S47)]) ho2 (by simp; omega) (g : Int) (by omega) base (by omega)
   have b3 := ev_bond42 B hT [] (by simp) (by simp) (g : Int) (by omega) base (by omega)
   have p0 := ev_premium42 B hT.1 (m : Int) (kd : Int) (by omega) (by omega) c (by omega)
   rw [SV_more, if_neg (show ¬ (m : Int) = (g : Int) by omega), Nat.add_zero] at b2
   rw [show SV B [] (g : Int) base = base * 720720 by simp [SV, ofF, sumP], (base_M base).1, (base_M base).2] at b3
   refine Ev.cbind rfl (Ev.pos (by simp; omega) (Ev.cbind rfl (Ev.cbind rfl (Ev.pos (by simp; omega) (Ev.bind b1 (Ev.bind b2 (Ev.bind p0 (Ev.neg hf (Ev.pos ?_ (Ev.bind b3 (Ev.cbind rfl (Ev.pos ?_ (Ev.now _)))))))))))))
   ·simp
   ·simp
  obtain ⟨k, hk⟩ := hB.rounds
  exact ⟨k, by unfold parolelaw42_PriceBonds.f; rw [bonds_other k l0_0 l0_1 (base : Int) (a : Int) (c : Int) (f : Int) hf]; exact hk⟩
end Go.Proofs.Ytohnkcmbogcfhaa.Pure
namespace Go.Proofs.YtohnkcmbogcfhaaH
open Go.RowKit Go.Proofs.YtohnkcmbogcfhaaW.PrintWords
variable {P : Program}
/-- What can be read as_ a value of type t is a value of kind d, and g holds of it. -/
def Opens (P : Program) (t : TypeId) {α : Type} (d : Kd α) (g : α → Prop) : Prop :=
 ∀ {H : Type} (enc : TypeId × Value → H) (W : World) (sp : Nat → Bool) (fuel : Nat) (cs : List Value) (x : DataW H × List MemPlace), DataW.trod enc P W 0 sp true fuel t cs = some x → ∃ y, d.K W y cs ∧ g y
theorem opens_int {t : TypeId} {k : IntKind} (ht : P.underlying t = some (.int k)) : Opens P t (Kd.int k) (fun n => (Lit.int k n).wf = true) := by
 intro H enc W sp fuel cs x h
 obtain ⟨n, rfl, _, hw⟩ := DataW.trod_int ht h
 exact ⟨n, rfl, hw⟩
theorem opens_slice {t e : TypeId} {α : Type} {d : Kd α} {g : α → Prop} (ht : P.underlying t = some (.slice e)) (hd : Opens P e d g) (hs : P.cellsOf e = d.sz) :
  Opens P t (Kd.slice e d) (fun l => l.length ≤ maxLen ∧ ∀ x ∈ l, g x) := by
 intro H enc W sp fuel cs x h
 rcases Deep.open_slice ht h with ⟨rfl, _⟩ | ⟨a, len, cap, m, n, D, Pl, rfl, _, hl, hm, hme, _, hel⟩
 ·refine ⟨[], ⟨none, 0, rfl, Nat.le_refl _, rfl, Nat.zero_le _, fun h => absurd h (Nat.lt_irrefl _)⟩, Nat.zero_le _, by simp⟩
 ·have hlm : len ≤ m := by rw [hme]; split <;> omega
  have h1 : ∀ i, ∃ z : Option α, i < len → ∃ y c, z = some y ∧ W.cells? 0 (a.add (i * P.cellsOf e)) (P.cellsOf e) = some c ∧ d.K W y c ∧ g y := by
   intro i
   by_cases hi : i < len
   ·obtain ⟨c, hc, hx⟩ := hel i (by omega)
    obtain ⟨y, hy, hg⟩ := hd enc W sp n c _ hx
    exact ⟨some y, fun _ => ⟨y, c, rfl, hc, hy, hg⟩⟩
   ·exact ⟨none, fun h => absurd h hi⟩
  obtain ⟨f, hf⟩ := Classical.axiomOfChoice h1
  have h2 : ∀ i, i < len → ∃ y c, f i = some y ∧ W.cells? 0 (a.add (i * P.cellsOf e)) (P.cellsOf e) = some c ∧ d.K W y c ∧ g y := fun i hi => hf i hi
  have key : ∀ k, k ≤ len → ∃ l : List α, l.length = k ∧ ∀ i, i < k → l[i]? = f i := by
   intro k
   induction k with
   | zero => intro _; exact ⟨[], rfl, fun i hi => absurd hi (Nat.not_lt_zero _)⟩
   | succ k ih =>
    intro hk
    obtain ⟨l, hll, hli⟩ := ih (by omega)
    obtain ⟨y, c, hy, _⟩ := h2 k (by omega)
    refine ⟨l ++ [y], by simp [hll], fun i hi => ?_⟩
    by_cases hik : i < k
    ·rw [List.getElem?_append_left (by omega)]; exact hli i hik
    ·have : i = k := by omega
     subst this
     rw [List.getElem?_append_right (by omega), hll]
     simp [hy]
  obtain ⟨l, hll, hli⟩ := key len (Nat.le_refl _)
  refine ⟨l, ⟨some a, cap, by rw [hll], by omega, rfl, ?_, fun _ => ⟨a, rfl, ?_⟩⟩, by omega, ?_⟩
  ·rw [hll]; unfold maxLen at hm; omega
  ·intro j p hj
   have hjl : j < len := by rw [← hll]; exact (List.getElem?_eq_some_iff.1 hj).1
   obtain ⟨y, c, hy, hc, hK, _⟩ := h2 j hjl
   have : p = y := by
    rw [hli j hjl, hy] at hj
    exact (Option.some.inj hj).symm
   subst this
   refine ⟨c, d.K_len hK, hK, fun i u hu => ?_⟩
   obtain ⟨_, hcl, hcc⟩ := World.cells?_some hc
   have hi : i < P.cellsOf e := by rw [← hcl]; exact (List.getElem?_eq_some_iff.1 hu).1
   rw [← hs, ← Deep.add_add, hcc i hi, hu]
  ·intro x hx
   obtain ⟨j, hj⟩ := List.getElem?_of_mem hx
   have hjl : j < len := by rw [← hll]; exact (List.getElem?_eq_some_iff.1 hj).1
   obtain ⟨y, c, hy, hc, hK, hg⟩ := h2 j hjl
   rw [hli j hjl, hy] at hj
   rw [← Option.some.inj hj]
   exact hg
/-- The fields from an offset on. -/
def OpensAt (P : Program) (off : Nat) (fs : List (TypeId × Nat)) {α : Type} (d : Kd α) (g : α → Prop) : Prop :=
 ∀ {H : Type} (enc : TypeId × Value → H) (W : World) (sp : Nat → Bool) (fuel : Nat) (cs : List Value), cs.length = off + d.sz → (∀ f ∈ fs, ∃ x, DataW.trod enc P W 0 sp true fuel f.1 ((cs.drop f.2).take (P.cellsOf f.1)) = some x) → ∃ y, d.K W y (cs.drop off) ∧ g y
theorem opens_last {off : Nat} {t : TypeId} {α : Type} {d : Kd α} {g : α → Prop} (ho : Opens P t d g) (hs : P.cellsOf t = d.sz) : OpensAt P off [(t, off)] d g := by
 intro H enc W sp fuel cs hl hf
 obtain ⟨x, hx⟩ := hf (t, off) (by simp)
 have e : (cs.drop off).take (P.cellsOf t) = cs.drop off := List.take_of_length_le (by rw [List.length_drop, hs]; omega)
 rw [e] at hx
 exact ho enc W sp fuel _ x hx
theorem opens_next {off : Nat} {t : TypeId} {fs : List (TypeId × Nat)} {α β : Type} {d : Kd α} {d' : Kd β} {g : α → Prop} {g' : β → Prop} (ho : Opens P t d g) (hs : P.cellsOf t = d.sz) (hr : OpensAt P (off + d.sz) fs d' g') :
  OpensAt P off ((t, off) :: fs) (Kd.pair d d') (fun x => g x.1 ∧ g' x.2) := by
 intro H enc W sp fuel cs hl hf
 have hl' : cs.length = off + d.sz + d'.sz := by have : (Kd.pair d d').sz = d.sz + d'.sz := rfl; omega
 obtain ⟨x, hx⟩ := hf (t, off) (by simp)
 obtain ⟨y, hy, hg⟩ := ho enc W sp fuel _ x hx
 obtain ⟨y', hy', hg'⟩ := hr enc W sp fuel cs hl' (fun f h => hf f (by simp [h]))
 refine ⟨(y, y'), ⟨_, _, ?_, hy, hy'⟩, hg, hg'⟩
 show cs.drop off = (cs.drop off).take (P.cellsOf t) ++ cs.drop (off + d.sz)
 rw [hs, ← List.drop_drop, List.take_append_drop]
theorem opens_struct {t : TypeId} {fs : Array Field} {α : Type} {d : Kd α} {g : α → Prop} (ht : P.underlying t = some (.struct fs)) (ho : OpensAt P 0 (fs.toList.map fun f => (f.type, f.offset)) d g) (hs : P.cellsOf t = d.sz) : Opens P t d g := by
 intro H enc W sp fuel cs x h
 obtain ⟨xs, n, _, _, hl, hlen, hf⟩ := DataW.trod_struct ht h
 have := ho enc W sp n cs (by omega) (fun f hfm => by
  obtain ⟨f0, hm, rfl⟩ := List.mem_map.1 hfm
  obtain ⟨i, hi⟩ := List.getElem?_of_mem hm
  have hi' : fs[i]? = some f0 := by simpa using hi
  have hlt : i < fs.size := (Array.getElem?_eq_some_iff.1 hi').1
  have := hf i f0 hi'
  rw [List.getElem?_eq_getElem (by omega)] at this
  exact ⟨_, this⟩)
 simpa using this
theorem opens_array {t e : TypeId} {n : Nat} {α : Type} {d : Kd α} {g : α → Prop} (ht : P.underlying t = some (.array n e)) (ho : OpensAt P 0 ((List.range n).map fun i => (e, i * P.cellsOf e)) d g) (hs : P.cellsOf t = d.sz) : Opens P t d g := by
 intro H enc W sp fuel cs x h
 obtain ⟨xs, m, _, _, hl, hlen, hf⟩ := DataW.trod_array ht h
 have := ho enc W sp m cs (by omega) (fun f hfm => by
  obtain ⟨i, hm, rfl⟩ := List.mem_map.1 hfm
  have hlt : i < n := by simpa using hm
  have := hf i hlt
  rw [List.getElem?_eq_getElem (by omega)] at this
  exact ⟨_, this⟩)
 simpa using this
theorem opens_iso {t : TypeId} {α β : Type} {d : Kd α} {g : α → Prop} (f : β → α) (mk : α → β) (hf : ∀ a, f (mk a) = a) (ho : Opens P t d g) : Opens P t (Kd.iso d f) (fun b => g (f b)) := by
 intro H enc W sp fuel cs x h
 obtain ⟨y, hy, hg⟩ := ho enc W sp fuel cs x h
 refine ⟨mk y, ?_, ?_⟩
 ·show d.K W (f (mk y)) cs
  rw [hf]
  exact hy
 ·show g (f (mk y))
  rw [hf]
  exact hg
theorem Opens.at_ {H : Type} {enc : TypeId × Value → H} {W : World} {sp : Nat → Bool} {t : TypeId} {v : Value} {x : DataW H} {ps : List MemPlace} {α : Type} {d : Kd α} {g : α → Prop} (ho : Opens P t d g) (h : DataW.Trod enc P W 0 sp true t v x ps) : ∃ y, d.K W y v.cells.toList ∧ g y := by
 obtain ⟨fuel, hf⟩ := h
 exact ho enc W sp fuel _ _ hf
/-- A value of a struct or array type is its cells. -/
theorem agg_of_struct {r : Reach} {b0 : Nat} {W : World} {t : TypeId} {fs : Array Field} {v : Value} (ht : P.underlying t = some (.struct fs)) (hv : Value.okWide P W r b0 t v) : ∃ cs, v = .agg cs := by
 obtain ⟨cs, rfl, _⟩ := WideShapes.okWide_struct ht hv
 exact ⟨cs, rfl⟩
theorem agg_of_array {r : Reach} {b0 : Nat} {W : World} {t e : TypeId} {n : Nat} {v : Value} (ht : P.underlying t = some (.array n e)) (hv : Value.okWide P W r b0 t v) : ∃ cs, v = .agg cs := by
 simp only [Value.okWide, ht] at hv
 obtain ⟨cs, rfl, _⟩ := hv
 exact ⟨cs, rfl⟩
theorem agg_cells {cs : Array Value} {l : List Value} (h : (Value.agg cs).cells.toList = l) : Value.agg cs = .agg l.toArray := by
 simp only [Value.cells] at h
 rw [← h]
end Go.Proofs.YtohnkcmbogcfhaaH
namespace Go.Proofs.Ytohnkcmbogcfhaa.priceBonds
open Go.ChangeShapes Go.WideShapes Go.ChangeAt Go.RowKit Go.Proofs.YtohnkcmbogcfhaaH Go.Proofs.Ytohnkcmbogcfhaa.P Go.Proofs.YtohnkcmbogcfhaaW.PrintWords
open Go.ChangeMaps (open_string shut_string)
theorem own : ownKnob Try.prog.godebug = none := by kernel_rfl
theorem laidOut : laidOutB Try.prog = true := by kernel_rfl
set_option maxRecDepth 100000 in
set_option maxHeartbeats 4000000 in
theorem lifted (os : Os) (started : os.Started) (H : Type) (enc : TypeId × Value → H) :
  ReturnsInHanded {} Try.checked os 12 .any (Rows.priceBondsSpec.pre6 enc Try.prog Try.f12 Rows.priceBondsRow.domain false) (Rows.priceBondsSpec.post enc Try.prog Try.f12 false true false false) := by
 refine returnsInHanded_of_change_sized (C := Try.checked) own started (by kernel_rfl) Try.func12
  (ChangeSpec.witness6 (enc := enc) (C := Try.checked) false ⟨#[], #[.agg #[(.slice none 0 0), (.slice none 0 0), (.int .u16 0)], .agg #[(.int .u8 0), (.int .u8 0)], .int .u8 0], []⟩ 8 (by kernel_rfl) (by kernel_rfl) (by kernel_rfl) (by kernel_rfl)) ?_
 intro W base args ds gs before hval0 hW hcnd hsz0 _
 have hval : ∀ (j : Nat) t v, Try.f12.params[j]? = some t → args[j]? = some v → Value.okWide Try.prog W .any base t v := hval0
 have hW' := hW
 obtain ⟨p, q, hA0, hV, rfl, hfz, hnd⟩ := hW
 have hA : DataW.TrodAll enc Try.prog W 0 (fun _ => true) true Try.f12.params.toList args.toList ds p := hA0
 rw [Try.params12] at hA hval
 obtain ⟨v0, vs0, d0, ds0, p0, q0, hargs, rfl, rfl, h0, r0⟩ := trodAll_cons hA
 obtain ⟨v1, vs1, d1, ds1, p1, q1, rfl, rfl, rfl, h1, r1⟩ := trodAll_cons r0
 obtain ⟨v2, vs2, d2, ds2, p2, q2, rfl, rfl, rfl, h2, r2⟩ := trodAll_cons r1
 obtain ⟨rfl, rfl, rfl⟩ := trodAll_nil r2
 obtain rfl : args = #[v0, v1, v2] := by cases args; simp_all
 obtain ⟨rfl, rfl⟩ := trodVars_none hV
 obtain ⟨cs0, rfl⟩ := agg_of_struct Try.underlying45 (hval 0 45 v0 rfl rfl)
 have k0 := h0
 have lt0 : ∀ x ∈ p0, x.block < W.heap.size := by obtain ⟨m, hm⟩ := k0; exact DataW.trod_lt m _ _ _ hm
 obtain ⟨y0, K0, g0⟩ := Opens.at_ (show Opens Try.prog 45 k45 _ from opens_iso (fun x : S45 => (x.f0, x.f1, x.f2)) (fun y => (⟨y.1, y.2.1, y.2.2⟩ : S45)) (fun _ => rfl) (opens_struct Try.underlying45 (opens_next (opens_slice Try.underlying42 (opens_int Try.underlying5) (by kernel_rfl)) (by kernel_rfl) (opens_next (opens_slice Try.underlying42 (opens_int Try.underlying5) (by kernel_rfl)) (by kernel_rfl) (opens_last (opens_int Try.underlying43) (by kernel_rfl)))) (by kernel_rfl))) h0
 obtain ⟨A0_0, C0_0, A0_1, C0_1, e0, l0_0, rr0_0, l0_1, rr0_1⟩ := k45_open K0
 obtain rfl := Value.agg.inj (agg_cells e0)
 obtain ⟨cs1, rfl⟩ := agg_of_array Try.underlying80 (hval 1 80 v1 rfl rfl)
 have k1 := h1
 have lt1 : ∀ x ∈ p1, x.block < W.heap.size := by obtain ⟨m, hm⟩ := k1; exact DataW.trod_lt m _ _ _ hm
 obtain ⟨y1, K1, g1⟩ := Opens.at_ (show Opens Try.prog 80 k80 _ from opens_iso (fun x : S80 => (x.f0, x.f1)) (fun y => (⟨y.1, y.2⟩ : S80)) (fun _ => rfl) (opens_array Try.underlying80 (opens_next (opens_int Try.underlying5) (by kernel_rfl) (opens_last (opens_int Try.underlying5) (by kernel_rfl))) (by kernel_rfl))) h1
 have e1 := k80_open K1
 obtain rfl := Value.agg.inj (agg_cells e1)
 obtain ⟨a2, rfl, rfl, rfl, w2⟩ := open_int Try.underlying5 (hval 2 5 v2 rfl rfl) h2
 obtain ⟨k, hk⟩ := Pure.PriceBonds y0.f0 y0.f1 y0.f2 y1.f0 y1.f1 a2 g0 g1 w2
 clear hA0 hval0 hsz0
 refine (parolelaw42_PriceBonds.calls k _ _ y0.f0 _ _ y0.f1 y0.f2 y1.f0 y1.f1 a2 true W rr0_0 l0_0 rr0_1 l0_1 rfl hk).mono fun e W' hpost => ?_
 obtain ⟨he, bel0⟩ := hpost
 have bel : Below W.heap.size W W' := bel0
 subst he
 exact ⟨_, rfl, _, _, _, [], _, [], hW', trodAll_mk1 (shut_bool Try.underlying4 _), (trodAll_cons_mk (Below.trod laidOut (by kernel_rfl) (of_decide_eq_true (by kernel_rfl)) k0 bel lt0) (trodAll_cons_mk (Below.trod laidOut (by kernel_rfl) (of_decide_eq_true (by kernel_rfl)) k1 bel lt1) (trodAll_cons_mk (shut_int Try.underlying5 w2) trodAll_mk0))), rfl, bel.frame _, fun h => by cases h⟩
theorem over : Rows.priceBondsRow.holds Try.pinned (OpenSpec.ofChange Rows.priceBondsSpec) :=
 OpenClaim.holds_of_wide 12 Try.f12 rfl rfl rfl rfl rfl rfl rfl ⟨rfl, rfl, rfl, rfl, rfl⟩ rfl rfl rfl rfl rfl (by kernel_rfl) Try.func12 (by kernel_rfl)
  (of_decide_eq_true (by kernel_rfl)) (by unfold Func.isWrapper; first | (rw [if_pos (by decide +kernel)]; kernel_rfl) | (rw [if_neg (by decide +kernel)]; exact ⟨rfl, rfl⟩))
  (fun os started H enc _ => lifted os started H enc)
theorem proved : Rows.PriceBondsSaid := over
end Go.Proofs.Ytohnkcmbogcfhaa.priceBonds
namespace Go.Proofs.Ytohnkcmbogcfhaa
/-- The row, under a short name, for the claim. -/
theorem priceBonds_holds : Rows.PriceBondsSaid := priceBonds.proved
end Go.Proofs.Ytohnkcmbogcfhaa

/- FieldMatchesReference: tags, which reports count, what they say together, and bounds, agree with the reference implementation: for all reports, all numbers. The plain law. -/
import Derived.Test.YtfdoncgljohndaacFieldMatchesReference9
import Derived.Deep.Slices
import Derived.WideShapes
import Derived.OpenShut
import Derived.ShutString
import Derived.ChangeOld
import Derived.SizedLaws
import Derived.Deep.OwnRows
import Derived.Laws.Rows
import Derived.Test.YtfdoncgljohndaaRows
set_option linter.unusedVariables false
set_option linter.unusedSimpArgs false
namespace Go.Proofs.Ytfdoncgljohndaa.R
open Go.RowKit Go.Proofs.Ytfdoncgljohndaa.P Go.Proofs.YtfdoncgljohndaaW.PrintWords Go.Proofs.YtfdoncgljohndaaW.PrintLast Go.Proofs.YtfdoncgljohndaaW.PrintMore
theorem wrap64_of {n : Int} (h0 : -9223372036854775808 ≤ n) (h1 : n ≤ 9223372036854775807) : wrap64 n = n := by
 unfold wrap64
 omega
theorem u64_of {n : Int} (h0 : 0 ≤ n) (h1 : n ≤ 18446744073709551615) : IntKind.u64.wrap n = n := by
 unfold IntKind.wrap
 simp [IntKind.signed, IntKind.bits]
 omega
theorem u64_def (n : Int) : IntKind.u64.wrap n = n % 18446744073709551616 := by
 unfold IntKind.wrap
 simp [IntKind.signed, IntKind.bits]
theorem Ev.pos {α : Type} {c : Prop} [Decidable c] {g f : Nat → Option α} {r : α} (hc : c) (h : Ev g r) : Ev (fun n => if c then g n else f n) r := Ev.congr (fun _ => if_pos hc) h
theorem Ev.neg {α : Type} {c : Prop} [Decidable c] {g f : Nat → Option α} {r : α} (hc : ¬ c) (h : Ev f r) : Ev (fun n => if c then g n else f n) r := Ev.congr (fun _ => if_neg hc) h
theorem Ev.succ {α : Type} {g : Nat → Option α} {r : α} (h : Ev (fun k => g (k + 1)) r) : Ev g r := Ev.step (fun _ => rfl) h
theorem Ev.const {α : Type} {o : Option α} {r : α} (h : o = some r) : Ev (fun _ => o) r := ⟨0, fun _ _ => h⟩
theorem Ev.cbind {α β : Type} {o : Option α} {f : Nat → α → Option β} {a : α} {r : β} (h : o = some a) (k : Ev (fun n => f n a) r) : Ev (fun n => o.bind (f n)) r := Ev.bind (Ev.const h) k
theorem gcd_l1 (x10 : List Int) (x11 x12 : Int) : ∀ (b a : Nat) (r : Int), Ev (fun k => rat_gcd.l0 k (Nat.gcd a b : Int) x10 x11 (wrap64 (x12 + 1))) r → Ev (fun k => rat_gcd.l1 k (a : Int) (b : Int) x10 x11 x12) r := by
 intro b
 induction b using Nat.strongRecOn with
 | _ b ih =>
  intro a r h
  refine Ev.succ ?_
  simp only [rat_gcd.l1]
  by_cases hb : b = 0
  ·subst hb
   refine Ev.neg (by simp) ?_
   simpa using h
  ·refine Ev.pos (by omega) (Ev.neg (by omega) ?_)
   have e : Int.tmod (a : Int) (b : Int) = ((a % b : Nat) : Int) := rfl
   rw [e]
   refine ih (a % b) (Nat.mod_lt _ (by omega)) b r ?_
   rw [Nat.gcd_comm, ← Nat.gcd_rec, Nat.gcd_comm]
   exact h
theorem gcd2 (a b : Nat) : Ev (fun k => rat_gcd.f k [(a : Int), (b : Int)]) (Nat.gcd a b : Int) := by
 unfold rat_gcd.f
 refine Ev.pos (by simp) (Ev.pos (by simp) ?_)
 simp only [rd, List.drop, List.getD, List.length]
 refine Ev.succ ?_
 simp only [rat_gcd.l0]
 refine Ev.pos (by simp) (Ev.pos (by simp) (Ev.pos (by simp) ?_))
 refine gcd_l1 _ _ _ b a _ ?_
 refine Ev.succ ?_
 simp only [rat_gcd.l0]
 exact Ev.neg (by rw [wrap64_of (by omega) (by omega)]; simp) (Ev.now _)
theorem number_small (neg : Bool) (lo : Nat) (h : lo ≤ 4611686018427387904) : Ev (fun k => rat_wide_number.f k neg 0 (lo : Int)) (if neg then -(lo : Int) else (lo : Int), true) := by
 unfold rat_wide_number.f
 refine Ev.neg (by omega) (Ev.succ ?_)
 simp only [rat_wide_number.j0]
 refine Ev.neg (by simp; omega) ?_
 rw [wrap64_of (n := (lo : Int)) (by omega) (by omega), wrap64_of (n := -(lo : Int)) (by omega) (by omega)]
 cases neg <;> simp <;> exact Ev.now _
theorem made_small (neg : Bool) (a b : Nat) (ha : a ≤ 4611686018427387904) (hb : b ≤ 4611686018427387904) : Ev (fun k => rat_made.f k neg 0 (a : Int) false 0 (b : Int)) (if neg then -(a : Int) else (a : Int), (b : Int), 0) := by
 unfold rat_made.f
 refine Ev.bind (number_small neg a ha) (Ev.bind (number_small false b hb) ?_)
 exact Ev.pos rfl (Ev.pos rfl (Ev.now _))
/-- New of two numbers that are not negative. -/
theorem new_nat (n d : Nat) (hn : n ≤ 4611686018427387904) (hd : 0 < d) (hd2 : d ≤ 4611686018427387904) : Ev (fun k => rat_New.f k (n : Int) (d : Int)) (((n / Nat.gcd n d : Nat) : Int), ((d / Nat.gcd n d : Nat) : Int), 0) := by
 unfold rat_New.f
 refine Ev.neg (by omega) ?_
 by_cases h0 : n = 0
 ·subst h0
  refine Ev.pos (by simp) ?_
  simp only [rat_zero.f, Option.bind_some, Nat.gcd_zero_left, Nat.zero_div, Nat.div_self hd]
  exact Ev.now _
 ·refine Ev.neg (by omega) ?_
  have ea : ∀ m : Nat, m ≤ 4611686018427387904 → rat_abs.f (m : Int) = some (m : Int) := by
   intro m hm
   unfold rat_abs.f
   rw [if_neg (by omega), u64_of (by omega) (by omega)]
  have hg : 0 < Nat.gcd n d := Nat.gcd_pos_of_pos_right _ hd
  refine Ev.cbind (ea n hn) (Ev.cbind (ea d hd2) (Ev.bind (gcd2 n d) (Ev.cbind (ea n hn) (Ev.neg (by omega) (Ev.cbind (ea d hd2) ?_)))))
  have e1 : ∀ m : Nat, m ≤ 4611686018427387904 → IntKind.u64.wrap (Int.tdiv (m : Int) (Nat.gcd n d : Int)) = ((m / Nat.gcd n d : Nat) : Int) := by
   intro m hm
   have e : Int.tdiv (m : Int) (Nat.gcd n d : Int) = ((m / Nat.gcd n d : Nat) : Int) := rfl
   have h1 := Nat.div_le_self m (Nat.gcd n d)
   rw [e]
   generalize m / Nat.gcd n d = q at h1
   exact u64_of (by omega) (by omega)
  rw [e1 n hn, e1 d hd2]
  have e2 : (decide ((n : Int) < 0) != decide ((d : Int) < 0)) = false := by
   rw [decide_eq_false (by omega), decide_eq_false (by omega)]; rfl
  rw [e2]
  refine Ev.bind (made_small false _ _ (Nat.le_trans (Nat.div_le_self _ _) hn) (Nat.le_trans (Nat.div_le_self _ _) hd2)) ?_
  exact Ev.now _
end Go.Proofs.Ytfdoncgljohndaa.R
namespace Go.Fld
/-- The step of a digest, on natural numbers. -/
def stepN (h w : Nat) : Nat :=
 let x := ((h ^^^ w) * 11400714819323198485) % 18446744073709551616
 let y := ((x ^^^ (x >>> 29)) * 13787848793156543929) % 18446744073709551616
 y ^^^ (y >>> 32)
theorem xor_lt {a b : Nat} (ha : a < 18446744073709551616) (hb : b < 18446744073709551616) : a ^^^ b < 18446744073709551616 := Nat.xor_lt_two_pow (n := 64) ha hb
theorem shr_lt {a : Nat} (s : Nat) (ha : a < 18446744073709551616) : a >>> s < 18446744073709551616 := by
 rw [Nat.shiftRight_eq_div_pow]; exact Nat.lt_of_le_of_lt (Nat.div_le_self _ _) ha
theorem stepN_lt (h w : Nat) : stepN h w < 18446744073709551616 := by
 unfold stepN
 exact xor_lt (Nat.mod_lt _ (by decide)) (shr_lt _ (Nat.mod_lt _ (by decide)))
theorem bits_xor_u64 {a b : Nat} (ha : a < 18446744073709551616) (hb : b < 18446744073709551616) : bits .xor .u64 (a : Int) (b : Int) = ((a ^^^ b : Nat) : Int) := by
 have ha' : a % 2 ^ 64 = a := Nat.mod_eq_of_lt ha
 have hb' : b % 2 ^ 64 = b := Nat.mod_eq_of_lt hb
 have hk : IntKind.u64.bits = 64 := rfl
 simp only [bits, hk, BitVec.ofInt_natCast, BitVec.toNat_xor, BitVec.toNat_ofNat, ha', hb']
 simp only [IntKind.wrap, IntKind.bits, IntKind.signed]
 have := xor_lt ha hb
 simp
 omega
end Go.Fld
namespace Go.Proofs.Ytfdoncgljohndaa.R
open Go.RowKit Go.Fld Go.Proofs.Ytfdoncgljohndaa.P Go.Proofs.YtfdoncgljohndaaW.PrintWords Go.Proofs.YtfdoncgljohndaaW.PrintLast Go.Proofs.YtfdoncgljohndaaW.PrintMore
/-- A number of 64 bits, as_ a natural number. -/
def u (w : Int) : Nat := (w % 18446744073709551616).toNat
theorem u_lt (w : Int) : u w < 18446744073709551616 := by unfold u; omega
theorem u_wrap (w : Int) : IntKind.u64.wrap w = (u w : Int) := by rw [u64_def]; unfold u; omega
theorem step_of (h w : Nat) (hh : h < 18446744073709551616) (hw : w < 18446744073709551616) : digest_Step.f (h : Int) (w : Int) = some (stepN h w : Int) := by
 have x0 := xor_lt hh hw
 have e0 := bits_xor_u64 hh hw
 have l : ∀ n : Nat, n % 18446744073709551616 < 18446744073709551616 := fun n => Nat.mod_lt _ (by decide)
 have m1 : IntKind.u64.wrap (((h ^^^ w : Nat) : Int) * 11400714819323198485) = (((h ^^^ w) * 11400714819323198485 % 18446744073709551616 : Nat) : Int) := by rw [u64_def]; omega
 obtain ⟨x, hx⟩ : ∃ x, x = (h ^^^ w) * 11400714819323198485 % 18446744073709551616 := ⟨_, rfl⟩
 have lx : x < 18446744073709551616 := by rw [hx]; exact l _
 have d1 : (x : Int) / (536870912 : Int) = ((x >>> 29 : Nat) : Int) := by rw [Nat.shiftRight_eq_div_pow]; omega
 have e1 := bits_xor_u64 lx (shr_lt 29 lx)
 have m2 : IntKind.u64.wrap (((x ^^^ (x >>> 29) : Nat) : Int) * 13787848793156543929) = (((x ^^^ (x >>> 29)) * 13787848793156543929 % 18446744073709551616 : Nat) : Int) := by rw [u64_def]; omega
 obtain ⟨y, hy⟩ : ∃ y, y = (x ^^^ (x >>> 29)) * 13787848793156543929 % 18446744073709551616 := ⟨_, rfl⟩
 have ly : y < 18446744073709551616 := by rw [hy]; exact l _
 have d2 : (y : Int) / (4294967296 : Int) = ((y >>> 32 : Nat) : Int) := by rw [Nat.shiftRight_eq_div_pow]; omega
 have e2 := bits_xor_u64 ly (shr_lt 32 ly)
 unfold digest_Step.f
 rw [e0, m1, ← hx, d1, e1, m2, ← hy, d2, e2]
 unfold stepN
 rw [← hx]
 simp only []
 rw [← hy]
/-- The digest of a list, from h on. -/
def wordsFrom (h : Nat) (l : List Int) : Nat := l.foldl (fun h w => stepN h (u w)) h
def wordsN (l : List Int) : Nat := wordsFrom (stepN 2611923443488327891 l.length) l
theorem wordsFrom_lt (l : List Int) : ∀ h, h < 18446744073709551616 → wordsFrom h l < 18446744073709551616 := by
 induction l with
 | nil => intro h hh; exact hh
 | cons x l ih => intro h hh; exact ih _ (stepN_lt _ _)
theorem wordsN_lt (l : List Int) : wordsN l < 18446744073709551616 := wordsFrom_lt _ _ (stepN_lt _ _)
theorem words_l0 (l : List Int) (hl : l.length < 1000000000) : ∀ (d i h : Nat), i + d = l.length → h < 18446744073709551616 → Ev (fun k => digest_Words.l0 k (h : Int) l (l.length : Int) (i : Int)) (wordsFrom h (l.drop i) : Int) := by
 intro d
 induction d with
 | zero =>
  intro i h hi hh
  refine Ev.succ ?_
  simp only [digest_Words.l0]
  refine Ev.neg (by omega) ?_
  rw [List.drop_eq_nil_of_le (by omega)]
  exact Ev.now _
 | succ d ih =>
  intro i h hi hh
  refine Ev.succ ?_
  simp only [digest_Words.l0]
  have hlt : i < l.length := by omega
  have er : rd l (i : Int) = l[i] := by unfold rd; simp [hlt]
  have hw : wrap64 ((i : Int) + 1) = ((i + 1 : Nat) : Int) := by rw [wrap64_of (by omega) (by omega)]; omega
  refine Ev.pos (by omega) (Ev.pos (by omega) (Ev.pos (by omega) ?_))
  rw [er, u_wrap, hw, List.drop_eq_getElem_cons hlt]
  refine Ev.cbind (step_of h _ hh (u_lt _)) ?_
  exact ih (i + 1) _ (by omega) (stepN_lt _ _)
theorem ev_Words (l : List Int) (hl : l.length < 1000000000) : Ev (fun k => digest_Words.f k l) (wordsN l : Int) := by
 unfold digest_Words.f
 rw [u64_of (by omega) (by omega)]
 refine Ev.cbind (step_of 2611923443488327891 l.length (by decide) (by omega)) ?_
 exact words_l0 l hl l.length 0 _ (by omega) (stepN_lt _ _)
theorem rwords_l0 (l : List Int) (hl : l.length < 1000000000) : ∀ (d i h : Nat), i + d = l.length → h < 18446744073709551616 → Ev (fun k => paroleref03_Words.l0 k l (h : Int) (i : Int)) (wordsFrom h (l.drop i) : Int) := by
 intro d
 induction d with
 | zero =>
  intro i h hi hh
  refine Ev.succ ?_
  simp only [paroleref03_Words.l0]
  refine Ev.neg (by omega) ?_
  rw [List.drop_eq_nil_of_le (by omega)]
  exact Ev.now _
 | succ d ih =>
  intro i h hi hh
  refine Ev.succ ?_
  simp only [paroleref03_Words.l0]
  have hlt : i < l.length := by omega
  have er : rd l (i : Int) = l[i] := by unfold rd; simp [hlt]
  have hw : wrap64 ((i : Int) + 1) = ((i + 1 : Nat) : Int) := by rw [wrap64_of (by omega) (by omega)]; omega
  refine Ev.pos (by omega) (Ev.pos (by omega) ?_)
  rw [er, u_wrap, hw, List.drop_eq_getElem_cons hlt]
  refine Ev.cbind (step_of h _ hh (u_lt _)) ?_
  exact ih (i + 1) _ (by omega) (stepN_lt _ _)
theorem ev_RWords (l : List Int) (hl : l.length < 1000000000) : Ev (fun k => paroleref03_Words.f k l) (wordsN l : Int) := by
 unfold paroleref03_Words.f
 rw [u64_of (by omega) (by omega)]
 refine Ev.cbind (step_of 2611923443488327891 l.length (by decide) (by omega)) ?_
 exact rwords_l0 l hl l.length 0 _ (by omega) (stepN_lt _ _)
def joinN (a b : Nat) : Nat := stepN (stepN 11820040416388919760 a) b
theorem join_of (a b : Nat) (ha : a < 18446744073709551616) (hb : b < 18446744073709551616) : digest_Join.f (a : Int) (b : Int) = some (joinN a b : Int) := by
 unfold digest_Join.f
 have h1 := step_of 11820040416388919760 a (by decide) ha
 have h2 := step_of (stepN 11820040416388919760 a) b (stepN_lt _ _) hb
 rw [show ((11820040416388919760 : Nat) : Int) = 11820040416388919760 from rfl] at h1
 rw [h1, Option.bind_some, h2, Option.bind_some]
 rfl
theorem rjoin_of (a b : Nat) (ha : a < 18446744073709551616) (hb : b < 18446744073709551616) : paroleref03_Join.f (a : Int) (b : Int) = some (joinN a b : Int) := join_of a b ha hb
/-- The tag of a report. -/
def nums (c : S28) : List Int := [c.f0, c.f1, c.f2, c.f3, c.f4, c.f5]
def tagN (key : Nat) (c : S28) : Nat := joinN key (wordsN (nums c))
theorem ev_Tag (key : Nat) (hk : key < 18446744073709551616) (c : S28) : Ev (fun k => field_Tag.f k (key : Int) c.f0 c.f1 c.f2 c.f3 c.f4 c.f5 c.f6) (tagN key c : Int) := by
 unfold field_Tag.f
 refine Ev.bind (ev_Words _ (by simp)) (Ev.cbind (join_of _ _ hk (wordsN_lt _)) (Ev.now _))
theorem ev_RTag (key : Nat) (hk : key < 18446744073709551616) (c : S28) : Ev (fun k => paroleref32_Tag.f k (key : Int) c.f0 c.f1 c.f2 c.f3 c.f4 c.f5 c.f6) (tagN key c : Int) := by
 unfold paroleref32_Tag.f
 refine Ev.bind (ev_RWords _ (by simp)) (Ev.cbind (rjoin_of _ _ hk (wordsN_lt _)) (Ev.now _))
def signN (key : Nat) (c : S28) : S28 := ⟨c.f0, c.f1, c.f2, c.f3, c.f4, c.f5, (tagN key c : Int)⟩
def tup (c : S28) : Int × Int × Int × Int × Int × Int × Int := (c.f0, c.f1, c.f2, c.f3, c.f4, c.f5, c.f6)
theorem ev_Sign (key : Nat) (hk : key < 18446744073709551616) (c : S28) : Ev (fun k => field_Sign.f k (key : Int) c.f0 c.f1 c.f2 c.f3 c.f4 c.f5 c.f6) (tup (signN key c)) := by
 unfold field_Sign.f
 exact Ev.bind (ev_Tag key hk c) (Ev.now _)
theorem ev_RSign (key : Nat) (hk : key < 18446744073709551616) (c : S28) : Ev (fun k => paroleref32_Sign.f k (key : Int) c.f0 c.f1 c.f2 c.f3 c.f4 c.f5 c.f6) (tup (signN key c)) := by
 unfold paroleref32_Sign.f
 exact Ev.bind (ev_RTag key hk c) (Ev.now _)
/-- The keys, as_ natural numbers. -/
def KeysOk (keys : List Int) : Prop := ∀ x ∈ keys, 0 ≤ x ∧ x < 18446744073709551616
def keyAt (keys : List Int) (i : Int) : Nat := (rd keys i).toNat
theorem key_at {keys : List Int} (h : KeysOk keys) {i : Int} (h0 : 0 ≤ i) (h1 : i < keys.length) : rd keys i = (keyAt keys i : Int) ∧ keyAt keys i < 18446744073709551616 := by
 have hm : rd keys i ∈ keys := by
  unfold rd
  rw [List.getD_eq_getElem?_getD, List.getElem?_eq_getElem (show i.toNat < keys.length by omega)]
  exact List.getElem_mem _
 have := h _ hm
 unfold keyAt
 omega
def shapeB (n : Nat) (c : S28) : Bool := decide (0 ≤ c.f0) && decide (c.f0 < (n : Int)) && decide (1 ≤ c.f1) && decide (c.f1 ≤ 1073741824) && decide (0 ≤ c.f5) && decide (c.f5 ≤ c.f4) && decide (c.f4 ≤ c.f3) && decide (c.f3 ≤ 1099511627776)
def rightB (keys : List Int) (c : S28) : Bool := shapeB keys.length c && (c.f6 == (tagN (keyAt keys c.f0) c : Int))
theorem shapeB_iff {n : Nat} {c : S28} : shapeB n c = true ↔ (0 ≤ c.f0 ∧ c.f0 < n ∧ 1 ≤ c.f1 ∧ c.f1 ≤ 1073741824 ∧ 0 ≤ c.f5 ∧ c.f5 ≤ c.f4 ∧ c.f4 ≤ c.f3 ∧ c.f3 ≤ 1099511627776) := by
 unfold shapeB
 simp only [Bool.and_eq_true, decide_eq_true_eq]
 omega
theorem ev_Right {keys : List Int} (hk : KeysOk keys) (c : S28) : Ev (fun k => okR k keys c) (if rightB keys c = true then 0 else 320) := by
 unfold okR field_Right.f
 have j1t : Ev (fun k => field_Right.j1 k keys true c.f0 c.f1 c.f2 c.f3 c.f4 c.f5 c.f6) 320 := by
  refine Ev.succ ?_
  unfold field_Right.j1
  exact Ev.pos rfl (Ev.now _)
 have j2t : Ev (fun k => field_Right.j2 k keys true c.f0 c.f1 c.f2 c.f3 c.f4 c.f5 c.f6) 320 := by
  refine Ev.succ ?_
  unfold field_Right.j2
  exact Ev.pos rfl (Ev.now _)
 have j0t : Ev (fun k => field_Right.j0 k keys true c.f0 c.f1 c.f2 c.f3 c.f4 c.f5 c.f6) 320 := by
  refine Ev.succ ?_
  unfold field_Right.j0
  exact Ev.pos rfl j1t
 by_cases hs : shapeB keys.length c = true
 ·have hs' := shapeB_iff.1 hs
  refine Ev.neg (by omega) ?_
  rw [decide_eq_false (by omega)]
  refine Ev.succ ?_
  simp only [field_Right.j0]
  refine Ev.neg (by simp) (Ev.neg (by omega) ?_)
  rw [decide_eq_false (by omega)]
  refine Ev.succ ?_
  simp only [field_Right.j1]
  refine Ev.neg (by simp) (Ev.neg (by omega) (Ev.neg (by omega) (Ev.neg (by omega) ?_)))
  rw [decide_eq_false (by omega)]
  refine Ev.succ ?_
  simp only [field_Right.j2]
  refine Ev.neg (by simp) (Ev.pos (by omega) (Ev.pos (by omega) ?_))
  obtain ⟨e, hlt⟩ := key_at hk hs'.1 hs'.2.1
  rw [e]
  refine Ev.bind (ev_Tag _ hlt c) ?_
  unfold rightB
  rw [hs, Bool.true_and]
  by_cases ht : c.f6 = (tagN (keyAt keys c.f0) c : Int)
  ·rw [if_pos (beq_iff_eq.2 ht)]
   exact Ev.pos ht (Ev.now _)
  ·rw [if_neg (fun e => ht (beq_iff_eq.1 e))]
   exact Ev.neg ht (Ev.now _)
 ·have hr : rightB keys c = false := by unfold rightB; rw [Bool.not_eq_true] at hs; rw [hs]; rfl
  rw [hr, if_neg (by simp)]
  rw [shapeB_iff] at hs
  by_cases h0 : c.f0 < 0
  ·exact Ev.pos h0 j0t
  refine Ev.neg h0 ?_
  by_cases h1 : c.f0 ≥ (keys.length : Int)
  ·rw [decide_eq_true h1]; exact j0t
  rw [decide_eq_false h1]
  refine Ev.succ ?_
  simp only [field_Right.j0]
  refine Ev.neg (by simp) ?_
  by_cases h2 : c.f1 < 1
  ·exact Ev.pos h2 j1t
  refine Ev.neg h2 ?_
  by_cases h3 : c.f1 > 1073741824
  ·rw [decide_eq_true h3]; exact j1t
  rw [decide_eq_false h3]
  refine Ev.succ ?_
  simp only [field_Right.j1]
  refine Ev.neg (by simp) ?_
  by_cases h4 : c.f5 < 0
  ·exact Ev.pos h4 j2t
  refine Ev.neg h4 ?_
  by_cases h5 : c.f4 < c.f5
  ·exact Ev.pos h5 j2t
  refine Ev.neg h5 ?_
  by_cases h6 : c.f3 < c.f4
  ·exact Ev.pos h6 j2t
  refine Ev.neg h6 ?_
  by_cases h7 : c.f3 > 1099511627776
  ·rw [decide_eq_true h7]; exact j2t
  exact absurd ⟨by omega, by omega, by omega, by omega, by omega, by omega, by omega, by omega⟩ hs
/-- Of all elements of a list at one number of rounds. -/
theorem ev_all {α β : Type} (l : List α) (g : α → Nat → Option β) (f : α → β) (h : ∀ x ∈ l, Ev (g x) (f x)) : ∃ K, ∀ k, K ≤ k → ∀ x ∈ l, g x k = some (f x) := by
 induction l with
 | nil => exact ⟨0, by simp⟩
 | cons a l ih =>
  obtain ⟨K, hK⟩ := ih (fun x hx => h x (by simp [hx]))
  obtain ⟨J, hJ⟩ := h a (by simp)
  refine ⟨max K J, fun k hk x hx => ?_⟩
  rcases List.mem_cons.1 hx with rfl | hx
  ·exact hJ k (by omega)
  ·exact hK k (by omega) x hx
/-- The evidence. -/
def accB (keys : List Int) (p : Int) (c : S28) : Bool := c.f2 == p && rightB keys c
def evid (keys : List Int) (l : List S28) (p : Int) : Int × Int × Int × Int × Int × Int := gathR (l.filter (accB keys p)) p
theorem ev_Gather {keys : List Int} (hk : KeysOk keys) (l : List S28) (p : Int) (h1 : keys.length ≤ 1000000) (h2 : l.length ≤ 1000) : Ev (fun k => field_Gather.f k keys l p) (evid keys l p) := by
 obtain ⟨K, hK⟩ := ev_all l (fun c k => okR k keys c) _ (fun c _ => ev_Right hk c)
 refine ⟨K, fun k hk' => ?_⟩
 show field_Gather.f k keys l p = _
 unfold field_Gather.f evid
 rw [if_pos ⟨h1, h2, by
  rw [List.all_eq_true]
  intro c hc
  rw [hK k hk' c hc]
  simp⟩]
 congr 2
 refine List.filter_congr fun c hc => ?_
 unfold accR accB
 rw [hK k hk' c hc]
 cases rightB keys c <;> simp
end Go.Proofs.Ytfdoncgljohndaa.R
namespace Go.Proofs.Ytfdoncgljohndaa.R
open Go.RowKit Go.Fld Go.Proofs.Ytfdoncgljohndaa.P Go.Proofs.YtfdoncgljohndaaW.PrintWords Go.Proofs.YtfdoncgljohndaaW.PrintLast Go.Proofs.YtfdoncgljohndaaW.PrintMore
theorem wf_u8 {n : Int} (h : (Lit.int .u8 n).wf = true) : 0 ≤ n ∧ n ≤ 255 := by
 simp only [Lit.wf, IntKind.min, IntKind.max, IntKind.signed, IntKind.bits, Bool.and_eq_true] at h
 simpa using h
theorem wf_i64 {n : Int} (h : (Lit.int .i64 n).wf = true) : -9223372036854775808 ≤ n ∧ n ≤ 9223372036854775807 := by
 simp only [Lit.wf, IntKind.min, IntKind.max, IntKind.signed, IntKind.bits, Bool.and_eq_true] at h
 simpa using h
def keyN (i : Nat) : Int := (wordsN [(i : Int), 77] : Int)
def keysFrom : Nat → Nat → List Int
 | _, 0 => []
 | i, d + 1 => keyN i :: keysFrom (i + 1) d
def keysN (n : Nat) : List Int := keysFrom 0 n
theorem keysFrom_length : ∀ d i, (keysFrom i d).length = d
 | 0, _ => rfl
 | d + 1, i => by simp [keysFrom, keysFrom_length d]
theorem keysN_length (n : Nat) : (keysN n).length = n := keysFrom_length n 0
theorem keysFrom_ok : ∀ d i, KeysOk (keysFrom i d)
 | 0, _ => fun x hx => by simp [keysFrom] at hx
 | d + 1, i => fun x hx => by
  rcases List.mem_cons.1 hx with rfl | hx
  ·have := wordsN_lt [(i : Int), 77]; unfold keyN; omega
  ·exact keysFrom_ok d (i + 1) x hx
theorem keysN_ok (n : Nat) : KeysOk (keysN n) := keysFrom_ok n 0
theorem keys_l0 : ∀ (d i : Nat) (acc : List Int), acc.length + d < 1000 → i + d < 1000 → Ev (fun k => paroleref32_Keys.l0 k ((i + d : Nat) : Int) acc (i : Int)) (acc ++ keysFrom i d)
 | 0, i, acc, h, h2 => by
  refine Ev.succ ?_
  simp only [paroleref32_Keys.l0, keysFrom, List.append_nil]
  exact Ev.neg (by omega) (Ev.now _)
 | d + 1, i, acc, h, h2 => by
  refine Ev.succ ?_
  simp only [paroleref32_Keys.l0, keysFrom]
  have hw : wrap64 ((i : Int) + 1) = ((i + 1 : Nat) : Int) := by rw [wrap64_of (by omega) (by omega)]; omega
  refine Ev.pos (by omega) (Ev.bind (ev_RWords [(i : Int), 77] (by simp)) (Ev.pos (by omega) ?_))
  rw [hw]
  have := keys_l0 d (i + 1) (acc ++ [keyN i]) (by simp; omega) (by omega)
  rw [show i + 1 + d = i + (d + 1) by omega] at this
  simpa [keyN] using this
theorem ev_Keys (n : Nat) (hn : n < 1000) : Ev (fun k => paroleref32_Keys.f k (n : Int)) (keysN n) := by
 have := keys_l0 n 0 [] (by simpa using hn) (by omega)
 simpa [paroleref32_Keys.f, keysN] using this
def rawOk (x : S58) : Prop := (0 ≤ x.f0.f0 ∧ x.f0.f0 ≤ 255) ∧ (0 ≤ x.f0.f1 ∧ x.f0.f1 ≤ 255) ∧ (0 ≤ x.f0.f2 ∧ x.f0.f2 ≤ 255) ∧ (0 ≤ x.f0.f3 ∧ x.f0.f3 ≤ 255) ∧ (0 ≤ x.f0.f4 ∧ x.f0.f4 ≤ 255) ∧ (0 ≤ x.f0.f5 ∧ x.f0.f5 ≤ 255)
def bareR (n : Int) (x : S58) : S28 := ⟨x.f0.f0 % n, 1 + x.f0.f1 % 12, 1 + x.f0.f2 % 3, x.f0.f3 / 200 + x.f0.f4 % 50 + x.f0.f5, x.f0.f3 / 200 + x.f0.f4 % 50, x.f0.f3 / 200, 0⟩
def madeR (keys : List Int) (x : S58) : S28 := signN (keyAt keys (x.f0.f0 % keys.length)) (bareR keys.length x)
theorem ev_MadeR {keys : List Int} (hk : KeysOk keys) (h0 : 0 < keys.length) (hl : keys.length < 1000) (x : S58) (hx : rawOk x) :
  Ev (fun k => paroleref32_Made.f k keys x.f0.f0 x.f0.f1 x.f0.f2 x.f0.f3 x.f0.f4 x.f0.f5) (tup (madeR keys x)) := by
 unfold rawOk at hx
 have t1 : Int.tmod x.f0.f0 (keys.length : Int) = x.f0.f0 % (keys.length : Int) := Int.tmod_eq_emod_of_nonneg hx.1.1
 have hp : (0 : Int) < keys.length := by omega
 have m0 := Int.emod_nonneg x.f0.f0 (b := (keys.length : Int)) (by omega)
 have m1 := Int.emod_lt_of_pos x.f0.f0 hp
 unfold paroleref32_Made.f
 rw [wrap64_of (n := x.f0.f0) (by omega) (by omega), t1]
 refine Ev.neg (by omega) (Ev.pos m0 (Ev.pos m1 ?_))
 obtain ⟨e, hlt⟩ := key_at hk m0 m1
 rw [e]
 have a1 : wrap64 (1 + wrap64 (Int.tmod x.f0.f1 12)) = 1 + x.f0.f1 % 12 := by
  rw [Int.tmod_eq_emod_of_nonneg hx.2.1.1, wrap64_of (n := x.f0.f1 % 12) (by omega) (by omega), wrap64_of (by omega) (by omega)]
 have a2 : wrap64 (1 + wrap64 (Int.tmod x.f0.f2 3)) = 1 + x.f0.f2 % 3 := by
  rw [Int.tmod_eq_emod_of_nonneg hx.2.2.1.1, wrap64_of (n := x.f0.f2 % 3) (by omega) (by omega), wrap64_of (by omega) (by omega)]
 have a3 : wrap64 (Int.tdiv (wrap64 x.f0.f3) 200) = x.f0.f3 / 200 := by
  rw [wrap64_of (n := x.f0.f3) (by omega) (by omega), Int.tdiv_eq_ediv_of_nonneg hx.2.2.2.1.1, wrap64_of (by omega) (by omega)]
 have a4 : wrap64 (x.f0.f3 / 200 + wrap64 (Int.tmod x.f0.f4 50)) = x.f0.f3 / 200 + x.f0.f4 % 50 := by
  rw [Int.tmod_eq_emod_of_nonneg hx.2.2.2.2.1.1, wrap64_of (n := x.f0.f4 % 50) (by omega) (by omega), wrap64_of (by omega) (by omega)]
 have a5 : wrap64 (x.f0.f3 / 200 + x.f0.f4 % 50 + wrap64 x.f0.f5) = x.f0.f3 / 200 + x.f0.f4 % 50 + x.f0.f5 := by
  rw [wrap64_of (n := x.f0.f5) (by omega) (by omega), wrap64_of (by omega) (by omega)]
 rw [a1, a2, a3, a4, a5]
 exact Ev.bind (ev_RSign _ hlt (bareR keys.length x)) (Ev.now _)
theorem mk28 (c : S28) : (⟨(tup c).1, (tup c).2.1, (tup c).2.2.1, (tup c).2.2.2.1, (tup c).2.2.2.2.1, (tup c).2.2.2.2.2.1, (tup c).2.2.2.2.2.2⟩ : S28) = c := rfl
theorem list_l0 {keys : List Int} (hk : KeysOk keys) (h0 : 0 < keys.length) (hl : keys.length < 1000) (l : List S58) (hx : ∀ x ∈ l, rawOk x) : ∀ (d i : Nat) (acc : List S28), i + d = 20 → acc.length ≤ i →
  Ev (fun k => paroleref32_List.l0 k keys l 20 acc (i : Int)) (acc ++ ((l.drop i).take d).map (madeR keys)) := by
 intro d
 induction d with
 | zero =>
  intro i acc hi ha
  refine Ev.succ ?_
  simp only [paroleref32_List.l0, List.take_zero, List.map_nil, List.append_nil]
  by_cases h : (i : Int) < (l.length : Int)
  ·exact Ev.pos h (Ev.neg (by omega) (Ev.now _))
  ·exact Ev.neg h (Ev.now _)
 | succ d ih =>
  intro i acc hi ha
  refine Ev.succ ?_
  simp only [paroleref32_List.l0]
  by_cases h : i < l.length
  ·refine Ev.pos (by omega) (Ev.pos (by omega) (Ev.pos (by omega) ?_))
   have er : rd_T58 l (i : Int) = l[i] := by unfold rd_T58; simp [h]
   have hw : wrap64 ((i : Int) + 1) = ((i + 1 : Nat) : Int) := by rw [wrap64_of (by omega) (by omega)]; omega
   rw [er, hw, List.drop_eq_getElem_cons h]
   refine Ev.bind (ev_MadeR hk h0 hl l[i] (hx _ (List.getElem_mem h))) (Ev.pos (by omega) ?_)
   rw [mk28]
   have := ih (i + 1) (acc ++ [madeR keys l[i]]) (by omega) (by simp; omega)
   rw [List.append_assoc] at this
   exact this
  ·rw [List.drop_eq_nil_of_le (by omega)]
   simp only [List.take_nil, List.map_nil, List.append_nil]
   exact Ev.neg (by omega) (Ev.now _)
def listR (keys : List Int) (l : List S58) : List S28 := (l.take 20).map (madeR keys)
theorem ev_ListR {keys : List Int} (hk : KeysOk keys) (h0 : 0 < keys.length) (hl : keys.length < 1000) (l : List S58) (hx : ∀ x ∈ l, rawOk x) : Ev (fun k => paroleref32_List.f k keys l 20) (listR keys l) := by
 have := list_l0 hk h0 hl l hx 20 0 [] rfl (by simp)
 simpa [paroleref32_List.f, listR] using this
theorem listR_length (keys : List Int) (l : List S58) : (listR keys l).length ≤ 20 := by unfold listR; simp; omega
/-- What 'made' of the laws gives. -/
theorem ev_lmade (a b : Int) (ha : 0 ≤ a ∧ a ≤ 255) (hb : 0 ≤ b ∧ b ≤ 255) (l : List S58) (hx : ∀ x ∈ l, rawOk x) : ∃ n : Nat, 0 < n ∧ n ≤ 4 ∧ Ev (fun k => parolelaw32_made.f k a l b) (keysN n, listR (keysN n) l, 1 + b % 3) := by
 refine ⟨(1 + a % 4).toNat, by omega, by omega, ?_⟩
 unfold parolelaw32_made.f
 have e1 : wrap64 (1 + wrap64 (Int.tmod a 4)) = (((1 + a % 4).toNat : Nat) : Int) := by
  rw [Int.tmod_eq_emod_of_nonneg ha.1, wrap64_of (n := a % 4) (by omega) (by omega), wrap64_of (by omega) (by omega)]; omega
 have e2 : wrap64 (1 + wrap64 (Int.tmod b 3)) = 1 + b % 3 := by
  rw [Int.tmod_eq_emod_of_nonneg hb.1, wrap64_of (n := b % 3) (by omega) (by omega), wrap64_of (by omega) (by omega)]
 rw [e1, e2]
 have hn : 0 < (keysN (1 + a % 4).toNat).length := by rw [keysN_length]; omega
 exact Ev.bind (ev_Keys _ (by omega)) (Ev.bind (ev_ListR (keysN_ok _) hn (by rw [keysN_length]; omega) l hx) (Ev.now _))
theorem mem_macs (L : List S28) (x : Int) : x ∈ macs L ↔ ∃ c ∈ L, c.f0 = x := by
 unfold macs
 rw [mem_nub, List.mem_map]
theorem acc_okB {keys : List Int} {p : Int} {c : S28} (h : accB keys p c = true) : okB c ∧ c.f0 < keys.length ∧ c.f2 = p := by
 unfold accB rightB at h
 simp only [Bool.and_eq_true, beq_iff_eq] at h
 have := shapeB_iff.1 h.2.1
 unfold okB
 exact ⟨by omega, this.2.1, h.1⟩
end Go.Proofs.Ytfdoncgljohndaa.R
namespace Go.Proofs.Ytfdoncgljohndaa.R
open Go.RowKit Go.Fld Go.Proofs.Ytfdoncgljohndaa.P Go.Proofs.YtfdoncgljohndaaW.PrintWords Go.Proofs.YtfdoncgljohndaaW.PrintLast Go.Proofs.YtfdoncgljohndaaW.PrintMore
theorem mx_max (a b : Int) : mx a b = max a b := by unfold mx; omega
theorem ev_RRight {keys : List Int} (hk : KeysOk keys) (c : S28) : Ev (fun k => paroleref32_Right.f k keys c.f0 c.f1 c.f2 c.f3 c.f4 c.f5 c.f6) (if rightB keys c = true then 0 else 320) := by
 unfold paroleref32_Right.f
 by_cases hs : shapeB keys.length c = true
 ·have hs' := shapeB_iff.1 hs
  refine Ev.neg (by omega) (Ev.neg (by omega) (Ev.neg (by omega) (Ev.neg (by omega) (Ev.neg (by omega) (Ev.neg (by omega) (Ev.neg (by omega) (Ev.neg (by omega) (Ev.pos (by omega) (Ev.pos (by omega) ?_)))))))))
  obtain ⟨e, hlt⟩ := key_at hk hs'.1 hs'.2.1
  rw [e]
  refine Ev.bind (ev_RTag _ hlt c) ?_
  unfold rightB
  rw [hs, Bool.true_and]
  by_cases ht : c.f6 = (tagN (keyAt keys c.f0) c : Int)
  ·rw [if_pos (beq_iff_eq.2 ht)]
   exact Ev.pos ht (Ev.now _)
  ·rw [if_neg (fun e => ht (beq_iff_eq.1 e))]
   exact Ev.neg ht (Ev.now _)
 ·have hr : rightB keys c = false := by unfold rightB; rw [Bool.not_eq_true] at hs; rw [hs]; rfl
  rw [hr, if_neg (by simp)]
  rw [shapeB_iff] at hs
  by_cases h0 : c.f0 < 0
  ·exact Ev.pos h0 (Ev.now _)
  refine Ev.neg h0 ?_
  by_cases h1 : c.f0 ≥ (keys.length : Int)
  ·exact Ev.pos h1 (Ev.now _)
  refine Ev.neg h1 ?_
  by_cases h2 : c.f1 < 1
  ·exact Ev.pos h2 (Ev.now _)
  refine Ev.neg h2 ?_
  by_cases h3 : c.f1 > 1073741824
  ·exact Ev.pos h3 (Ev.now _)
  refine Ev.neg h3 ?_
  by_cases h4 : c.f5 < 0
  ·exact Ev.pos h4 (Ev.now _)
  refine Ev.neg h4 ?_
  by_cases h5 : c.f4 < c.f5
  ·exact Ev.pos h5 (Ev.now _)
  refine Ev.neg h5 ?_
  by_cases h6 : c.f3 < c.f4
  ·exact Ev.pos h6 (Ev.now _)
  refine Ev.neg h6 ?_
  by_cases h7 : c.f3 > 1099511627776
  ·exact Ev.pos h7 (Ev.now _)
  exact absurd ⟨by omega, by omega, by omega, by omega, by omega, by omega, by omega, by omega⟩ hs
/-- One machine's report with this number came ahead. -/
def againB (keys : List Int) (p n q : Int) (c : S28) : Bool := c.f0 == n && (c.f2 == p && (c.f1 == q && rightB keys c))
def ind (L : List S28) (n : Int) : Int := if ofM L n = [] then 0 else 1
def preL (keys : List Int) (l : List S28) (p : Int) (i : Nat) : List S28 := (l.take i).filter (accB keys p)
theorem preL_succ {keys : List Int} {l : List S28} {p : Int} {i : Nat} (h : i < l.length) : preL keys l p (i + 1) = preL keys l p i ++ (if accB keys p l[i] = true then [l[i]] else []) := by
 unfold preL
 rw [List.take_add_one, List.filter_append]
 congr 1
 simp only [List.getElem?_eq_getElem h, Option.toList_some]
 split <;> simp_all
def machR (L : List S28) (n : Int) : Int × Int × Int × Int × Int × Int := (0, ind L n, seenM L n, lookM L n, brokM L n, missM L n)
/-- The inner loop: is the number there already? -/
theorem mach_l1 {keys : List Int} (hk : KeysOk keys) (l : List S28) (hl : l.length ≤ 1000) (p n : Int) {i : Nat} (hi : i < l.length) (x10 x11 : Int) (c : S28) (a0 a1 a2 a3 a4 a5 : Int) (r : Int × Int × Int × Int × Int × Int)
  (hend : Ev (fun k => if (l.take i).any (againB keys p n c.f1) = true then paroleref32_machine.l0 k keys l p n (mx x10 c.f1) x11 (wrap64 ((i : Int) + 1)) a0 1 (mx a2 c.f3) (mx a3 c.f4) (mx a4 c.f5) a5 else paroleref32_machine.l0 k keys l p n (mx x10 c.f1) (wrap64 (x11 + 1)) (wrap64 ((i : Int) + 1)) a0 1 (mx a2 c.f3) (mx a3 c.f4) (mx a4 c.f5) a5) r) :
  ∀ (d j : Nat) (b : Bool), j + d = i → b = (l.take j).any (againB keys p n c.f1) → Ev (fun k => paroleref32_machine.l1 k keys l p n x10 x11 (i : Int) b (j : Int) a0 a1 a2 a3 a4 a5 c.f0 c.f1 c.f2 c.f3 c.f4 c.f5 c.f6) r := by
 intro d
 induction d with
 | zero =>
  intro j b hj hb
  refine Ev.succ ?_
  simp only [paroleref32_machine.l1]
  refine Ev.neg (by omega) ?_
  obtain rfl : j = i := by omega
  rw [hb]
  exact hend
 | succ d ih =>
  intro j b hj hb
  refine Ev.succ ?_
  simp only [paroleref32_machine.l1]
  have hjl : j < l.length := by omega
  have er : rd_T28 l (j : Int) = l[j] := by unfold rd_T28; simp [hjl]
  have hw : wrap64 ((j : Int) + 1) = ((j + 1 : Nat) : Int) := by rw [wrap64_of (by omega) (by omega)]; omega
  have ht : (l.take (j + 1)).any (againB keys p n c.f1) = ((l.take j).any (againB keys p n c.f1) || againB keys p n c.f1 l[j]) := by
   rw [List.take_add_one, List.any_append]
   simp [List.getElem?_eq_getElem hjl]
  rw [er, hw]
  refine Ev.pos (by omega) ?_
  by_cases hbt : b = true
  ·refine Ev.pos hbt ?_
   exact ih (j + 1) true (by omega) (by rw [ht, ← hb, hbt]; rfl)
  ·have hbf : b = false := by simpa using hbt
   have hq : ∀ q : Bool, q = againB keys p n c.f1 l[j] → q = (l.take (j + 1)).any (againB keys p n c.f1) := fun q hq => by rw [ht, ← hb, hbf, Bool.false_or, hq]
   refine Ev.neg hbt (Ev.pos (by omega) (Ev.pos (by omega) ?_))
   by_cases c1 : l[j].f0 = n
   ·refine Ev.pos c1 ?_
    by_cases c2 : l[j].f2 = p
    ·refine Ev.pos c2 ?_
     by_cases c3 : l[j].f1 = c.f1
     ·refine Ev.pos c3 (Ev.bind (ev_RRight hk l[j]) ?_)
      refine ih (j + 1) _ (by omega) (hq _ ?_)
      unfold againB
      rw [c1, c2, c3]
      cases rightB keys l[j] <;> simp
     ·refine Ev.neg c3 (ih (j + 1) _ (by omega) (hq _ ?_))
      unfold againB
      rw [show (l[j].f1 == c.f1) = false from beq_eq_false_iff_ne.2 c3]; simp
    ·refine Ev.neg c2 (ih (j + 1) _ (by omega) (hq _ ?_))
     unfold againB
     rw [show (l[j].f2 == p) = false from beq_eq_false_iff_ne.2 c2]; simp
   ·refine Ev.neg c1 (ih (j + 1) _ (by omega) (hq _ ?_))
    unfold againB
    rw [show (l[j].f0 == n) = false from beq_eq_false_iff_ne.2 c1]; simp
theorem again_iff {keys : List Int} (l : List S28) (p n : Int) {i : Nat} (q : Int) : (l.take i).any (againB keys p n q) = true ↔ q ∈ nub (seqsM (preL keys l p i) n) := by
 rw [mem_nub]
 unfold seqsM ofM preL
 rw [List.any_eq_true]
 simp only [List.mem_map, List.mem_filter, againB, accB, Bool.and_eq_true, beq_iff_eq]
 constructor
 ·rintro ⟨c, hc, h1, h2, h3, h4⟩; exact ⟨c, ⟨⟨hc, h2, h4⟩, h1⟩, h3⟩
 ·rintro ⟨c, ⟨⟨hc, h2, h4⟩, h1⟩, h3⟩; exact ⟨c, hc, h1, h2, h3, h4⟩
theorem nubLen_bd {keys : List Int} (l : List S28) (p n : Int) (i : Nat) (hi : i ≤ l.length) : (nub (seqsM (preL keys l p i) n)).length ≤ i := by
 refine Nat.le_trans (seqs_le _ _) ?_
 unfold preL
 refine Nat.le_trans (List.length_filter_le _ _) ?_
 rw [List.length_take]; omega
theorem pre_okB {keys : List Int} (l : List S28) (p : Int) (i : Nat) : ∀ c ∈ preL keys l p i, okB c := fun c hc => (acc_okB (List.mem_filter.1 hc).2).1
theorem mach_l0 {keys : List Int} (hk : KeysOk keys) (l : List S28) (hl : l.length ≤ 1000) (p n : Int) : ∀ (d i : Nat), i + d = l.length →
  Ev (fun k => paroleref32_machine.l0 k keys l p n (lastM (preL keys l p i) n) ((nub (seqsM (preL keys l p i) n)).length : Int) (i : Int) 0 (ind (preL keys l p i) n) (seenM (preL keys l p i) n) (lookM (preL keys l p i) n) (brokM (preL keys l p i) n) 0) (machR (l.filter (accB keys p)) n) := by
 intro d
 induction d with
 | zero =>
  intro i hi
  refine Ev.succ ?_
  simp only [paroleref32_machine.l0]
  refine Ev.neg (by omega) ?_
  have e : preL keys l p i = l.filter (accB keys p) := by unfold preL; rw [List.take_of_length_le (by omega)]
  have h1 := nubLen_bd (keys := keys) l p n i (by omega)
  have h2 := lastM_bd (pre_okB (keys := keys) l p i) n
  rw [wrap64_of (by omega) (by omega), e]
  exact Ev.now _
 | succ d ih =>
  intro i hi
  refine Ev.succ ?_
  simp only [paroleref32_machine.l0]
  have hil : i < l.length := by omega
  have er : rd_T28 l (i : Int) = l[i] := by unfold rd_T28; simp [hil]
  have hw : wrap64 ((i : Int) + 1) = ((i + 1 : Nat) : Int) := by rw [wrap64_of (by omega) (by omega)]; omega
  have ih' := ih (i + 1) (by omega)
  have hs := preL_succ (keys := keys) (p := p) hil
  rw [er]
  refine Ev.pos (by omega) (Ev.pos (by omega) ?_)
  have skip : (¬ (accB keys p l[i] = true ∧ l[i].f0 = n)) → Ev (fun k => paroleref32_machine.j1 k keys l p n (lastM (preL keys l p i) n) ((nub (seqsM (preL keys l p i) n)).length : Int) (i : Int) true 0 (ind (preL keys l p i) n) (seenM (preL keys l p i) n) (lookM (preL keys l p i) n) (brokM (preL keys l p i) n) 0 l[i].f0 l[i].f1 l[i].f2 l[i].f3 l[i].f4 l[i].f5 l[i].f6) (machR (l.filter (accB keys p)) n) := by
   intro hno
   refine Ev.succ ?_
   unfold paroleref32_machine.j1
   refine Ev.pos rfl ?_
   rw [hw]
   have eo : ofM (preL keys l p (i + 1)) n = ofM (preL keys l p i) n := by
    rw [hs]
    split
    ·rename_i ha
     rw [ofM_snoc, if_neg (fun e => hno ⟨ha, e⟩)]
    ·rw [List.append_nil]
   unfold lastM seqsM ind seenM lookM brokM at ih' ⊢
   rw [eo] at ih'
   exact ih'
  by_cases c1 : l[i].f0 = n
  ·refine Ev.pos c1 ?_
   by_cases c2 : l[i].f2 = p
   ·refine Ev.pos c2 (Ev.bind (ev_RRight hk l[i]) ?_)
    by_cases c3 : rightB keys l[i] = true
    ·rw [if_pos c3]
     have ha : accB keys p l[i] = true := by unfold accB; rw [c2, c3]; simp
     rw [if_pos ha] at hs
     refine Ev.succ ?_
     unfold paroleref32_machine.j1
     refine Ev.neg (by simp) ?_
     refine mach_l1 hk l hl p n hil _ _ l[i] _ _ _ _ _ _ _ ?_ i 0 false (by omega) (by simp)
     have h1 := nubLen_bd (keys := keys) l p n i (by omega)
     have ei : ind (preL keys l p (i + 1)) n = 1 := by
      unfold ind
      rw [hs, ofM_snoc, if_pos c1, if_neg (by simp)]
     have e2 : lastM (preL keys l p (i + 1)) n = mx (lastM (preL keys l p i) n) l[i].f1 := by rw [hs, lastM_snoc, if_pos c1, mx_max]
     have e3 : seenM (preL keys l p (i + 1)) n = mx (seenM (preL keys l p i) n) l[i].f3 := by rw [hs, seenM_snoc, if_pos c1, mx_max]
     have e4 : lookM (preL keys l p (i + 1)) n = mx (lookM (preL keys l p i) n) l[i].f4 := by rw [hs, lookM_snoc, if_pos c1, mx_max]
     have e5 : brokM (preL keys l p (i + 1)) n = mx (brokM (preL keys l p i) n) l[i].f5 := by rw [hs, brokM_snoc, if_pos c1, mx_max]
     have e6 : nub (seqsM (preL keys l p (i + 1)) n) = if l[i].f1 ∈ nub (seqsM (preL keys l p i) n) then nub (seqsM (preL keys l p i) n) else nub (seqsM (preL keys l p i) n) ++ [l[i].f1] := by rw [hs, seqsM_snoc, if_pos c1, nub_snoc]
     rw [ei, e2, e3, e4, e5] at ih'
     rw [hw]
     by_cases ca : (l.take i).any (againB keys p n l[i].f1) = true
     ·refine Ev.pos ca ?_
      rw [e6, if_pos ((again_iff l p n _).1 ca)] at ih'
      exact ih'
     ·refine Ev.neg ca ?_
      rw [e6, if_neg (fun h => ca ((again_iff l p n _).2 h)), List.length_append, List.length_singleton] at ih'
      rw [wrap64_of (by omega) (by omega)]
      exact ih'
    ·rw [if_neg c3]
     exact skip (fun h => c3 (by have := h.1; unfold accB at this; simp only [Bool.and_eq_true] at this; exact this.2))
   ·refine Ev.neg c2 (skip (fun h => c2 (by have := h.1; unfold accB at this; simp only [Bool.and_eq_true, beq_iff_eq] at this; exact this.1)))
  ·exact Ev.neg c1 (skip (fun h => c1 h.2))
theorem ev_machine {keys : List Int} (hk : KeysOk keys) (l : List S28) (hl : l.length ≤ 1000) (p n : Int) : Ev (fun k => paroleref32_machine.f k keys l p n) (machR (l.filter (accB keys p)) n) := by
 have := mach_l0 hk l hl p n l.length 0 (by omega)
 exact this
end Go.Proofs.Ytfdoncgljohndaa.R
namespace Go.Proofs.Ytfdoncgljohndaa.R
open Go.RowKit Go.Fld Go.Proofs.Ytfdoncgljohndaa.P Go.Proofs.YtfdoncgljohndaaW.PrintWords Go.Proofs.YtfdoncgljohndaaW.PrintLast Go.Proofs.YtfdoncgljohndaaW.PrintMore
def fromI : Nat → Nat → List Int
 | _, 0 => []
 | i, d + 1 => (i : Int) :: fromI (i + 1) d
theorem mem_fromI : ∀ (d i : Nat) (x : Int), x ∈ fromI i d ↔ (i : Int) ≤ x ∧ x < (i + d : Nat)
 | 0, i, x => by simp [fromI]
 | d + 1, i, x => by
  simp only [fromI, List.mem_cons, mem_fromI d (i + 1) x]
  omega
theorem nodup_fromI : ∀ (d i : Nat), (fromI i d).Nodup
 | 0, i => by simp [fromI]
 | d + 1, i => by
  simp only [fromI, List.nodup_cons]
  exact ⟨fun h => by rw [mem_fromI] at h; omega, nodup_fromI d (i + 1)⟩
theorem ofM_none {L : List S28} {x : Int} (h : x ∉ macs L) : ofM L x = [] := ofM_nil (fun c hc e => h ((mem_macs L x).2 ⟨c, hc, e⟩))
theorem ofM_some {L : List S28} {x : Int} (h : x ∈ macs L) : ofM L x ≠ [] := by
 rw [mem_macs] at h
 obtain ⟨c, hc, e⟩ := h
 intro hn
 have : c ∈ ofM L x := List.mem_filter.2 ⟨hc, by simpa using e⟩
 rw [hn] at this
 cases this
theorem ind_in {L : List S28} {x : Int} (h : x ∈ macs L) : ind L x = 1 := if_neg (ofM_some h)
theorem ind_out {L : List S28} {x : Int} (h : x ∉ macs L) : ind L x = 0 := if_pos (ofM_none h)
theorem sm_ones (l : List Int) : sm l (fun _ => 1) = l.length := by
 induction l with
 | nil => rfl
 | cons x l ih => rw [sm_cons, ih]; simp; omega
/-- The sums over all machines are those over the ones that have reported. -/
theorem gath_all {L : List S28} {m : Nat} (hm : ∀ c ∈ L, 0 ≤ c.f0 ∧ c.f0 < m) (p : Int) :
  gathR L p = (p, sm (fromI 0 m) (ind L), sm (fromI 0 m) (seenM L), sm (fromI 0 m) (lookM L), sm (fromI 0 m) (brokM L), sm (fromI 0 m) (missM L)) := by
 have hin : ∀ x ∈ macs L, x ∈ fromI 0 m := fun x hx => by
  rw [mem_macs] at hx
  obtain ⟨c, hc, e⟩ := hx
  have := hm c hc
  rw [mem_fromI]
  omega
 have n1 : (macs L).Nodup := nodup_nub _
 have w (f : Int → Int) (h0 : ∀ x, x ∉ macs L → f x = 0) : sm (macs L) f = sm (fromI 0 m) f := sm_within _ _ f n1 (nodup_fromI m 0) hin (fun x _ hn => h0 x hn)
 unfold gathR
 have e0 : ((macs L).length : Int) = sm (fromI 0 m) (ind L) := by
  rw [← w _ (fun x hx => ind_out hx), ← sm_ones]
  exact sm_congr fun x hx => (ind_in hx).symm
 rw [e0, w (seenM L) (fun x hx => by unfold seenM; rw [ofM_none hx]; rfl), w (lookM L) (fun x hx => by unfold lookM; rw [ofM_none hx]; rfl), w (brokM L) (fun x hx => by unfold brokM; rw [ofM_none hx]; rfl),
  w (missM L) (fun x hx => by unfold missM lastM seqsM; rw [ofM_none hx]; rfl)]
theorem wadd {s v : Int} {i : Nat} (hi : i ≤ 1000) (h : 0 ≤ s ∧ s ≤ i * 1099511627776) (hv : 0 ≤ v ∧ v ≤ 1099511627776) : wrap64 (s + v) = s + v ∧ (0 ≤ s + v ∧ s + v ≤ ((i + 1 : Nat) : Int) * 1099511627776) :=
 ⟨wrap64_of (by omega) (by omega), by omega, by omega⟩
theorem wadd1 {s v : Int} {i : Nat} (hi : i ≤ 1000) (h : 0 ≤ s ∧ s ≤ i) (hv : 0 ≤ v ∧ v ≤ 1) : wrap64 (s + v) = s + v ∧ (0 ≤ s + v ∧ s + v ≤ ((i + 1 : Nat) : Int)) :=
 ⟨wrap64_of (by omega) (by omega), by omega, by omega⟩
theorem wadd5 {s v : Int} {i : Nat} (hi : i ≤ 1000) (h : -1000 * (i : Int) ≤ s ∧ s ≤ i * 1099511627776) (hv : -1000 ≤ v ∧ v ≤ 1099511627776) : wrap64 (s + v) = s + v ∧ (-1000 * ((i + 1 : Nat) : Int) ≤ s + v ∧ s + v ≤ ((i + 1 : Nat) : Int) * 1099511627776) :=
 ⟨wrap64_of (by omega) (by omega), by omega, by omega⟩
theorem rgath_l0 {keys : List Int} (hk : KeysOk keys) (hkl : keys.length ≤ 1000) (l : List S28) (hl : l.length ≤ 1000) (p : Int) : ∀ (d i : Nat) (s1 s2 s3 s4 s5 : Int), i + d = keys.length →
  (0 ≤ s1 ∧ s1 ≤ i) → (0 ≤ s2 ∧ s2 ≤ i * 1099511627776) → (0 ≤ s3 ∧ s3 ≤ i * 1099511627776) → (0 ≤ s4 ∧ s4 ≤ i * 1099511627776) → (-1000 * i ≤ s5 ∧ s5 ≤ i * 1099511627776) →
  Ev (fun k => paroleref32_Gather.l0 k keys l p (i : Int) p s1 s2 s3 s4 s5) (p, s1 + sm (fromI i d) (ind (l.filter (accB keys p))), s2 + sm (fromI i d) (seenM (l.filter (accB keys p))), s3 + sm (fromI i d) (lookM (l.filter (accB keys p))), s4 + sm (fromI i d) (brokM (l.filter (accB keys p))), s5 + sm (fromI i d) (missM (l.filter (accB keys p)))) := by
 intro d
 induction d with
 | zero =>
  intro i s1 s2 s3 s4 s5 hi h1 h2 h3 h4 h5
  refine Ev.succ ?_
  simp only [paroleref32_Gather.l0, fromI, sm_nil, Int.add_zero]
  exact Ev.neg (by omega) (Ev.now _)
 | succ d ih =>
  intro i s1 s2 s3 s4 s5 hi h1 h2 h3 h4 h5
  refine Ev.succ ?_
  simp only [paroleref32_Gather.l0, fromI, sm_cons]
  refine Ev.pos (by omega) (Ev.bind (ev_machine hk l hl p (i : Int)) ?_)
  unfold machR
  have hL : ∀ c ∈ l.filter (accB keys p), okB c := fun c hc => (acc_okB (List.mem_filter.1 hc).2).1
  have hLn : (l.filter (accB keys p)).length ≤ 1000 := Nat.le_trans (List.length_filter_le _ _) hl
  have b1 : 0 ≤ ind (l.filter (accB keys p)) i ∧ ind (l.filter (accB keys p)) i ≤ 1 := by unfold ind; split <;> omega
  have b2 := seenM_bd hL i
  have b3 := lookM_bd hL i
  have b4 := brokM_bd hL i
  have b5 := missM_bd hL hLn i
  dsimp only
  have hi1 : i ≤ 1000 := by omega
  have hi2 : i + 1 + d = keys.length := by omega
  have hw : wrap64 ((i : Int) + 1) = ((i + 1 : Nat) : Int) := by rw [wrap64_of (by omega) (by omega)]; omega
  obtain ⟨w1, k1⟩ := wadd1 hi1 h1 b1
  obtain ⟨w2, k2⟩ := wadd hi1 h2 b2
  obtain ⟨w3, k3⟩ := wadd hi1 h3 b3
  obtain ⟨w4, k4⟩ := wadd hi1 h4 b4
  obtain ⟨w5, k5⟩ := wadd5 hi1 h5 b5
  rw [hw, w1, w2, w3, w4, w5]
  have := ih (i + 1) _ _ _ _ _ hi2 k1 k2 k3 k4 k5
  simp only [Int.add_assoc] at this
  exact this
theorem ev_RGather {keys : List Int} (hk : KeysOk keys) (hkl : keys.length ≤ 1000) (l : List S28) (hl : l.length ≤ 1000) (p : Int) : Ev (fun k => paroleref32_Gather.f k keys l p) (evid keys l p) := by
 have := rgath_l0 hk hkl l hl p keys.length 0 0 0 0 0 0 (by omega) (by omega) (by omega) (by omega) (by omega) (by omega)
 simp only [Int.zero_add] at this
 unfold evid
 rw [gath_all (m := keys.length) (fun c hc => by
  have := (acc_okB (List.mem_filter.1 hc).2)
  exact ⟨this.1.1, this.2.1⟩) p]
 exact this
theorem ev_RGcd : ∀ (b a : Nat), Ev (fun k => paroleref02_Gcd.f k (a : Int) (b : Int)) (Nat.gcd a b : Int) := by
 intro b
 induction b using Nat.strongRecOn with
 | _ b ih =>
  intro a
  unfold paroleref02_Gcd.f
  refine Ev.succ ?_
  simp only [paroleref02_Gcd.l0]
  by_cases hb : b = 0
  ·subst hb
   refine Ev.neg (by simp) ?_
   rw [Nat.gcd_zero_right]
   exact Ev.now _
  ·refine Ev.pos (by omega) (Ev.neg (by omega) ?_)
   have e : Int.tmod (a : Int) (b : Int) = ((a % b : Nat) : Int) := rfl
   rw [e]
   have := ih (a % b) (Nat.mod_lt _ (by omega)) b
   rw [show Nat.gcd b (a % b) = Nat.gcd a b by rw [Nat.gcd_comm, ← Nat.gcd_rec, Nat.gcd_comm]] at this
   exact this
theorem half_of (a g : Nat) (ha : a ≤ 4611686018427387904) (hg : 0 < g) : paroleref02_half.f (a : Int) (g : Int) = some ((a / g : Nat) : Int) := by
 unfold paroleref02_half.f
 rw [if_neg (by omega)]
 have e : Int.tdiv (a : Int) (g : Int) = ((a / g : Nat) : Int) := rfl
 have h1 := Nat.div_le_self a g
 rw [e]
 generalize a / g = q at h1
 rw [wrap64_of (by omega) (by omega)]
 unfold paroleref02_size.f
 rw [if_neg (by omega)]
 rfl
theorem rnew_j1 (n d : Nat) (hn0 : 0 < n) (hn : n ≤ 4611686018427387904) (hd : 0 < d) (hd2 : d ≤ 4611686018427387904) : Ev (fun k => paroleref02_NewIn.j1 k (n : Int) (d : Int)) (((n / Nat.gcd n d : Nat) : Int), ((d / Nat.gcd n d : Nat) : Int), 0) := by
 refine Ev.succ ?_
 simp only [paroleref02_NewIn.j1]
 refine Ev.neg (by omega) (Ev.neg (by omega) ?_)
 have e0 : ((d : Int) == (-9223372036854775808)) = false := beq_eq_false_iff_ne.2 (by omega)
 rw [e0]
 refine Ev.succ ?_
 unfold paroleref02_NewIn.j2
 have sz : ∀ m : Nat, paroleref02_size.f (m : Int) = some (m : Int) := fun m => by unfold paroleref02_size.f; rw [if_neg (by omega)]
 have hg : 0 < Nat.gcd n d := Nat.gcd_pos_of_pos_right _ hd
 have h1 := Nat.div_le_self n (Nat.gcd n d)
 have h2 := Nat.div_le_self d (Nat.gcd n d)
 refine Ev.neg (by simp) (Ev.cbind (sz n) (Ev.cbind (sz d) (Ev.bind (ev_RGcd d n) (Ev.cbind (half_of n _ hn hg) (Ev.cbind (half_of d _ hd2 hg) (Ev.cbind rfl (Ev.neg (by omega) (Ev.cbind rfl ?_))))))))
 rw [decide_eq_false (by omega)]
 refine Ev.succ ?_
 have e2 : (decide ((n : Int) < 0) != decide ((d : Int) < 0)) = false := by
  rw [decide_eq_false (by omega), decide_eq_false (by omega)]; rfl
 simp only [paroleref02_NewIn.j3, e2]
 exact Ev.neg (by simp) (Ev.neg (by simp) (Ev.now _))
/-- Of an odd number. -/
theorem rnew_odd (n d : Nat) (hn1 : n % 2 = 1) (hn : n ≤ 4611686018427387904) (hd : 0 < d) (hd2 : d ≤ 4611686018427387904) : Ev (fun k => paroleref02_NewIn.f k (n : Int) (d : Int)) (((n / Nat.gcd n d : Nat) : Int), ((d / Nat.gcd n d : Nat) : Int), 0) := by
 unfold paroleref02_NewIn.f
 refine Ev.neg (by omega) (Ev.succ ?_)
 simp only [paroleref02_NewIn.l0]
 refine Ev.neg ?_ (rnew_j1 n d (by omega) hn hd hd2)
 have e : Int.tmod (n : Int) 2 = ((n % 2 : Nat) : Int) := rfl
 rw [e, hn1]
 decide
theorem rnew_zero : Ev (fun k => paroleref02_NewIn.f k 0 1) (0, 1, 0) := by
 unfold paroleref02_NewIn.f
 refine Ev.neg (by omega) (Ev.succ ?_)
 simp only [paroleref02_NewIn.l0]
 refine Ev.pos (by decide) (Ev.neg (by decide) (Ev.succ ?_))
 simp only [paroleref02_NewIn.j1]
 exact Ev.pos trivial (Ev.now _)
theorem new01 : Ev (fun k => rat_New.f k 0 1) (0, 1, 0) := by
 have := new_nat 0 1 (by omega) (by omega) (by omega)
 simp only [Nat.gcd_one_right, Nat.zero_div, Nat.div_one] at this
 exact this
theorem rnew11 : Ev (fun k => paroleref02_NewIn.f k 1 1) (1, 1, 0) := by
 have := rnew_odd 1 1 (by omega) (by omega) (by omega) (by omega)
 simp only [Nat.gcd_one_right, Nat.div_one] at this
 exact this
/-- The bound. -/
def boundR (seen looked broken : Nat) : Int × Int × Int :=
 if broken = 0 then if looked = seen then (0, 1, 0) else ((((19 : Nat) / Nat.gcd 19 (max 19 looked) : Nat) : Int), ((max 19 looked / Nat.gcd 19 (max 19 looked) : Nat) : Int), 0) else (0, 0, 320)
theorem ev_bound (a0 a1 a5 : Int) (seen looked broken : Nat) (hl : looked ≤ 4611686018427387904) : Ev (fun k => parolelaw32_bound.f k a0 a1 (seen : Int) (looked : Int) (broken : Int) a5) (boundR seen looked broken) := by
 unfold parolelaw32_bound.f
 have : Ev (fun k => field_Bound.f k a0 a1 (seen : Int) (looked : Int) (broken : Int) a5) (boundR seen looked broken) := by
  unfold field_Bound.f boundR
  by_cases hb : broken = 0
  ·rw [if_pos hb]
   refine Ev.pos (by omega) ?_
   by_cases hs : looked = seen
   ·rw [if_pos hs]
    refine Ev.pos (by omega) ?_
    exact Ev.bind new01 (Ev.now _)
   ·rw [if_neg hs]
    refine Ev.neg (by omega) ?_
    have e : mx 19 (looked : Int) = ((max 19 looked : Nat) : Int) := by unfold mx; omega
    rw [e]
    exact Ev.bind (new_nat 19 (max 19 looked) (by omega) (by omega) (by omega)) (Ev.now _)
  ·rw [if_neg hb]
   exact Ev.neg (by omega) (Ev.now _)
 exact Ev.bind this (Ev.now _)
theorem ev_RBound (a0 a1 a5 : Int) (seen looked broken : Nat) (hl : looked ≤ 4611686018427387904) : Ev (fun k => paroleref32_BoundIn.f k a0 a1 (seen : Int) (looked : Int) (broken : Int) a5) (boundR seen looked broken) := by
 unfold paroleref32_BoundIn.f boundR
 by_cases hb : broken = 0
 ·rw [if_pos hb]
  refine Ev.pos (by omega) ?_
  by_cases hs : looked = seen
  ·rw [if_pos hs]
   refine Ev.pos (by omega) ?_
   exact Ev.bind rnew_zero (Ev.now _)
  ·rw [if_neg hs]
   refine Ev.neg (by omega) ?_
   by_cases h19 : looked < 19
   ·refine Ev.pos (by omega) ?_
    have e : max 19 looked = 19 := by omega
    rw [e, Nat.gcd_self, Nat.div_self (by omega)]
    exact Ev.bind rnew11 (Ev.now _)
   ·refine Ev.neg (by omega) ?_
    have e : max 19 looked = looked := by omega
    rw [e]
    exact Ev.bind (rnew_odd 19 looked (by omega) (by omega) (by omega) hl) (Ev.now _)
 ·rw [if_neg hb]
  exact Ev.neg (by omega) (Ev.now _)
end Go.Proofs.Ytfdoncgljohndaa.R
namespace Go.Proofs.Ytfdoncgljohndaa.Pure
open Go.RowKit Go.Fld Go.Proofs.Ytfdoncgljohndaa.P Go.Proofs.Ytfdoncgljohndaa.R Go.Proofs.YtfdoncgljohndaaW.PrintWords Go.Proofs.YtfdoncgljohndaaW.PrintLast Go.Proofs.YtfdoncgljohndaaW.PrintMore
theorem and_nat (x : Int) (b : Nat) (hb : b < 4611686018427387904) : ∃ m : Nat, Go.bits .and .i64 x (b : Int) = (m : Int) ∧ m ≤ b := by
 refine ⟨((BitVec.ofInt 64 x).toNat &&& b), ?_, Nat.and_le_right⟩
 have hk : IntKind.i64.bits = 64 := rfl
 have hb' : b % 2 ^ 64 = b := Nat.mod_eq_of_lt (by omega)
 simp only [bits, hk, BitVec.ofInt_natCast, BitVec.toNat_and, BitVec.toNat_ofNat, hb']
 have h1 : (BitVec.ofInt 64 x).toNat &&& b ≤ b := Nat.and_le_right
 change IntKind.i64.wrap (((BitVec.ofInt 64 x).toNat &&& b : Nat) : Int) = (((BitVec.ofInt 64 x).toNat &&& b : Nat) : Int)
 generalize (BitVec.ofInt 64 x).toNat &&& b = m at h1
 rw [IntKind.wrap_i64]
 omega
theorem match_l0 {keys : List Int} (hk : KeysOk keys) (hkl : keys.length ≤ 1000) (L : List S28) (hL : L.length ≤ 100) (p z0 z1 z2 : Int) : ∀ (d i : Nat), i + d = L.length →
  Ev (fun k => parolelaw32_FieldMatchesReference.l0 k true keys L p (i : Int) z0 z1 z2) true := by
 intro d
 induction d with
 | zero =>
  intro i hi
  refine Ev.succ ?_
  unfold parolelaw32_FieldMatchesReference.l0
  obtain ⟨m0, e0, b0⟩ := and_nat z0 1099511627775 (by omega)
  obtain ⟨m1, e1, b1⟩ := and_nat z1 1099511627775 (by omega)
  obtain ⟨m2, e2, b2⟩ := and_nat z2 1 (by omega)
  have ex : mx (m0 : Int) (m1 : Int) = ((max m0 m1 : Nat) : Int) := by unfold mx; omega
  have en : mn (m0 : Int) (m1 : Int) = ((min m0 m1 : Nat) : Int) := by unfold mn; omega
  rw [show ((1099511627775 : Nat) : Int) = 1099511627775 from rfl] at e0 e1
  rw [show ((1 : Nat) : Int) = 1 from rfl] at e2
  rw [e0, e1, e2, ex, en]
  refine Ev.neg (by omega) (Ev.pos rfl (Ev.bind (ev_Gather hk L p (by omega) (by omega)) (Ev.bind (ev_RGather hk hkl L (by omega) p) (Ev.pos (by simp) (Ev.bind (ev_Gather hk L z2 (by omega) (by omega)) (Ev.bind (ev_RGather hk hkl L (by omega) z2) (Ev.pos (by simp) (Ev.bind (ev_bound 0 0 0 _ _ _ (by omega)) (Ev.bind (ev_RBound 0 0 0 _ _ _ (by omega)) ?_)))))))))
  simp only [beq_self_eq_true, Bool.and_self]
  exact Ev.now _
 | succ d ih =>
  intro i hi
  refine Ev.succ ?_
  unfold parolelaw32_FieldMatchesReference.l0
  have hil : i < L.length := by omega
  have er : rd_T28 L (i : Int) = L[i] := by unfold rd_T28; simp [hil]
  have hw : wrap64 ((i : Int) + 1) = ((i + 1 : Nat) : Int) := by rw [wrap64_of (by omega) (by omega)]; omega
  rw [er, hw, u_wrap]
  generalize L[i] = c
  refine Ev.pos (by omega) (Ev.pos (by omega) (Ev.bind (ev_Tag _ (u_lt z2) c) (Ev.bind (ev_RTag _ (u_lt z2) c) (Ev.pos rfl (Ev.bind (ev_Sign _ (u_lt z2) c) (Ev.bind (ev_RSign _ (u_lt z2) c) (Ev.neg (by simp) (Ev.bind (ev_Right hk c) (Ev.bind (ev_RRight hk c) (Ev.pos rfl ?_))))))))))
  exact ih (i + 1) (by omega)
theorem FieldMatchesReference : parolelaw32_FieldMatchesReference.Pure := by
 intro a0_0 l0_1 a0_2 a1_0 a1_1 a1_2 a2_0 a2_1 a2_2 a2_3 a2_4 a2_5 a2_6 h0 h1 h2
 have hx : ∀ x ∈ l0_1, rawOk x := fun x hx => by
  have := h0.2.1.2 x hx
  exact ⟨wf_u8 this.1, wf_u8 this.2.1, wf_u8 this.2.2.1, wf_u8 this.2.2.2.1, wf_u8 this.2.2.2.2.1, wf_u8 this.2.2.2.2.2⟩
 obtain ⟨n, hn0, hn4, hm⟩ := ev_lmade a0_0 a0_2 (wf_u8 h0.1) (wf_u8 h0.2.2) l0_1 hx
 refine Ev.rounds (g := fun k => parolelaw32_FieldMatchesReference.f k a0_0 l0_1 a0_2 a1_0 a1_1 a1_2 a2_0 a2_1 a2_2 a2_3 a2_4 a2_5 a2_6) ?_
 unfold parolelaw32_FieldMatchesReference.f
 have hk := keysN_ok n
 have hkl := keysN_length n
 have hl := listR_length (keysN n) l0_1
 refine Ev.cbind (a := true) rfl (Ev.pos rfl (Ev.bind hm ?_))
 dsimp only
 generalize keysN n = keys at *
 generalize listR keys l0_1 = l at *
 generalize 1 + a0_2 % 3 = p at *
 obtain ⟨e, hlt⟩ := key_at hk (i := 0) (by omega) (by omega)
 rw [e]
 refine Ev.pos (by omega) (Ev.bind (ev_Sign _ hlt ⟨a2_0, a2_1, a2_2, a2_3, a2_4, a2_5, a2_6⟩) (Ev.cbind rfl (Ev.pos (by simp; omega) (Ev.cbind rfl ?_))))
 rw [mk28]
 generalize hL : l ++ [(⟨a2_0, a2_1, a2_2, a2_3, a2_4, a2_5, a2_6⟩ : S28), signN (keyAt keys 0) ⟨a2_0, a2_1, a2_2, a2_3, a2_4, a2_5, a2_6⟩] = L
 have hLl : L.length = l.length + 2 := by rw [← hL]; simp
 by_cases c : (L.length : Int) > 2
 ·refine Ev.pos c (Ev.pos (by omega) ?_)
  obtain ⟨q, hq⟩ : ∃ q, parolelaw32_changed.f (rd_T28 L 0).f0 (rd_T28 L 0).f1 (rd_T28 L 0).f2 (rd_T28 L 0).f3 (rd_T28 L 0).f4 (rd_T28 L 0).f5 (rd_T28 L 0).f6 (a1_0 % 256) a1_1 = some q := by
   unfold parolelaw32_changed.f
   repeat' split
   all_goals exact ⟨_, rfl⟩
  refine Ev.cbind hq (Ev.succ ?_)
  unfold parolelaw32_FieldMatchesReference.j0
  exact match_l0 hk (by omega) _ (by rw [List.length_set]; omega) p _ _ _ _ 0 (by rw [Nat.zero_add])
 ·refine Ev.neg c (Ev.succ ?_)
  unfold parolelaw32_FieldMatchesReference.j0
  exact match_l0 hk (by omega) _ (by omega) p _ _ _ _ 0 (by rw [Nat.zero_add])
end Go.Proofs.Ytfdoncgljohndaa.Pure
namespace Go.Proofs.YtfdoncgljohndaaH
open Go.RowKit Go.Proofs.YtfdoncgljohndaaW.PrintWords
variable {P : Program}
/-- What can be read as_ a value of type t is a value of kind d, and g holds of it. -/
def Opens (P : Program) (t : TypeId) {α : Type} (d : Kd α) (g : α → Prop) : Prop :=
 ∀ {H : Type} (enc : TypeId × Value → H) (W : World) (sp : Nat → Bool) (fuel : Nat) (cs : List Value) (x : DataW H × List MemPlace), DataW.trod enc P W 0 sp true fuel t cs = some x → ∃ y, d.K W y cs ∧ g y
theorem opens_int {t : TypeId} {k : IntKind} (ht : P.underlying t = some (.int k)) : Opens P t (Kd.int k) (fun n => (Lit.int k n).wf = true) := by
 intro H enc W sp fuel cs x h
 obtain ⟨n, rfl, _, hw⟩ := DataW.trod_int ht h
 exact ⟨n, rfl, hw⟩
theorem opens_slice {t e : TypeId} {α : Type} {d : Kd α} {g : α → Prop} (ht : P.underlying t = some (.slice e)) (hd : Opens P e d g) (hs : P.cellsOf e = d.sz) :
  Opens P t (Kd.slice e d) (fun l => l.length ≤ maxLen ∧ ∀ x ∈ l, g x) := by
 intro H enc W sp fuel cs x h
 rcases Deep.open_slice ht h with ⟨rfl, _⟩ | ⟨a, len, cap, m, n, D, Pl, rfl, _, hl, hm, hme, _, hel⟩
 ·refine ⟨[], ⟨none, 0, rfl, Nat.le_refl _, rfl, Nat.zero_le _, fun h => absurd h (Nat.lt_irrefl _)⟩, Nat.zero_le _, by simp⟩
 ·have hlm : len ≤ m := by rw [hme]; split <;> omega
  have h1 : ∀ i, ∃ z : Option α, i < len → ∃ y c, z = some y ∧ W.cells? 0 (a.add (i * P.cellsOf e)) (P.cellsOf e) = some c ∧ d.K W y c ∧ g y := by
   intro i
   by_cases hi : i < len
   ·obtain ⟨c, hc, hx⟩ := hel i (by omega)
    obtain ⟨y, hy, hg⟩ := hd enc W sp n c _ hx
    exact ⟨some y, fun _ => ⟨y, c, rfl, hc, hy, hg⟩⟩
   ·exact ⟨none, fun h => absurd h hi⟩
  obtain ⟨f, hf⟩ := Classical.axiomOfChoice h1
  have h2 : ∀ i, i < len → ∃ y c, f i = some y ∧ W.cells? 0 (a.add (i * P.cellsOf e)) (P.cellsOf e) = some c ∧ d.K W y c ∧ g y := fun i hi => hf i hi
  have key : ∀ k, k ≤ len → ∃ l : List α, l.length = k ∧ ∀ i, i < k → l[i]? = f i := by
   intro k
   induction k with
   | zero => intro _; exact ⟨[], rfl, fun i hi => absurd hi (Nat.not_lt_zero _)⟩
   | succ k ih =>
    intro hk
    obtain ⟨l, hll, hli⟩ := ih (by omega)
    obtain ⟨y, c, hy, _⟩ := h2 k (by omega)
    refine ⟨l ++ [y], by simp [hll], fun i hi => ?_⟩
    by_cases hik : i < k
    ·rw [List.getElem?_append_left (by omega)]; exact hli i hik
    ·have : i = k := by omega
     subst this
     rw [List.getElem?_append_right (by omega), hll]
     simp [hy]
  obtain ⟨l, hll, hli⟩ := key len (Nat.le_refl _)
  refine ⟨l, ⟨some a, cap, by rw [hll], by omega, rfl, ?_, fun _ => ⟨a, rfl, ?_⟩⟩, by omega, ?_⟩
  ·rw [hll]; unfold maxLen at hm; omega
  ·intro j p hj
   have hjl : j < len := by rw [← hll]; exact (List.getElem?_eq_some_iff.1 hj).1
   obtain ⟨y, c, hy, hc, hK, _⟩ := h2 j hjl
   have : p = y := by
    rw [hli j hjl, hy] at hj
    exact (Option.some.inj hj).symm
   subst this
   refine ⟨c, d.K_len hK, hK, fun i u hu => ?_⟩
   obtain ⟨_, hcl, hcc⟩ := World.cells?_some hc
   have hi : i < P.cellsOf e := by rw [← hcl]; exact (List.getElem?_eq_some_iff.1 hu).1
   rw [← hs, ← Deep.add_add, hcc i hi, hu]
  ·intro x hx
   obtain ⟨j, hj⟩ := List.getElem?_of_mem hx
   have hjl : j < len := by rw [← hll]; exact (List.getElem?_eq_some_iff.1 hj).1
   obtain ⟨y, c, hy, hc, hK, hg⟩ := h2 j hjl
   rw [hli j hjl, hy] at hj
   rw [← Option.some.inj hj]
   exact hg
/-- The fields from an offset on. -/
def OpensAt (P : Program) (off : Nat) (fs : List (TypeId × Nat)) {α : Type} (d : Kd α) (g : α → Prop) : Prop :=
 ∀ {H : Type} (enc : TypeId × Value → H) (W : World) (sp : Nat → Bool) (fuel : Nat) (cs : List Value), cs.length = off + d.sz → (∀ f ∈ fs, ∃ x, DataW.trod enc P W 0 sp true fuel f.1 ((cs.drop f.2).take (P.cellsOf f.1)) = some x) → ∃ y, d.K W y (cs.drop off) ∧ g y
theorem opens_last {off : Nat} {t : TypeId} {α : Type} {d : Kd α} {g : α → Prop} (ho : Opens P t d g) (hs : P.cellsOf t = d.sz) : OpensAt P off [(t, off)] d g := by
 intro H enc W sp fuel cs hl hf
 obtain ⟨x, hx⟩ := hf (t, off) (by simp)
 have e : (cs.drop off).take (P.cellsOf t) = cs.drop off := List.take_of_length_le (by rw [List.length_drop, hs]; omega)
 rw [e] at hx
 exact ho enc W sp fuel _ x hx
theorem opens_next {off : Nat} {t : TypeId} {fs : List (TypeId × Nat)} {α β : Type} {d : Kd α} {d' : Kd β} {g : α → Prop} {g' : β → Prop} (ho : Opens P t d g) (hs : P.cellsOf t = d.sz) (hr : OpensAt P (off + d.sz) fs d' g') :
  OpensAt P off ((t, off) :: fs) (Kd.pair d d') (fun x => g x.1 ∧ g' x.2) := by
 intro H enc W sp fuel cs hl hf
 have hl' : cs.length = off + d.sz + d'.sz := by have : (Kd.pair d d').sz = d.sz + d'.sz := rfl; omega
 obtain ⟨x, hx⟩ := hf (t, off) (by simp)
 obtain ⟨y, hy, hg⟩ := ho enc W sp fuel _ x hx
 obtain ⟨y', hy', hg'⟩ := hr enc W sp fuel cs hl' (fun f h => hf f (by simp [h]))
 refine ⟨(y, y'), ⟨_, _, ?_, hy, hy'⟩, hg, hg'⟩
 show cs.drop off = (cs.drop off).take (P.cellsOf t) ++ cs.drop (off + d.sz)
 rw [hs, ← List.drop_drop, List.take_append_drop]
theorem opens_struct {t : TypeId} {fs : Array Field} {α : Type} {d : Kd α} {g : α → Prop} (ht : P.underlying t = some (.struct fs)) (ho : OpensAt P 0 (fs.toList.map fun f => (f.type, f.offset)) d g) (hs : P.cellsOf t = d.sz) : Opens P t d g := by
 intro H enc W sp fuel cs x h
 obtain ⟨xs, n, _, _, hl, hlen, hf⟩ := DataW.trod_struct ht h
 have := ho enc W sp n cs (by omega) (fun f hfm => by
  obtain ⟨f0, hm, rfl⟩ := List.mem_map.1 hfm
  obtain ⟨i, hi⟩ := List.getElem?_of_mem hm
  have hi' : fs[i]? = some f0 := by simpa using hi
  have hlt : i < fs.size := (Array.getElem?_eq_some_iff.1 hi').1
  have := hf i f0 hi'
  rw [List.getElem?_eq_getElem (by omega)] at this
  exact ⟨_, this⟩)
 simpa using this
theorem opens_array {t e : TypeId} {n : Nat} {α : Type} {d : Kd α} {g : α → Prop} (ht : P.underlying t = some (.array n e)) (ho : OpensAt P 0 ((List.range n).map fun i => (e, i * P.cellsOf e)) d g) (hs : P.cellsOf t = d.sz) : Opens P t d g := by
 intro H enc W sp fuel cs x h
 obtain ⟨xs, m, _, _, hl, hlen, hf⟩ := DataW.trod_array ht h
 have := ho enc W sp m cs (by omega) (fun f hfm => by
  obtain ⟨i, hm, rfl⟩ := List.mem_map.1 hfm
  have hlt : i < n := by simpa using hm
  have := hf i hlt
  rw [List.getElem?_eq_getElem (by omega)] at this
  exact ⟨_, this⟩)
 simpa using this
theorem opens_iso {t : TypeId} {α β : Type} {d : Kd α} {g : α → Prop} (f : β → α) (mk : α → β) (hf : ∀ a, f (mk a) = a) (ho : Opens P t d g) : Opens P t (Kd.iso d f) (fun b => g (f b)) := by
 intro H enc W sp fuel cs x h
 obtain ⟨y, hy, hg⟩ := ho enc W sp fuel cs x h
 refine ⟨mk y, ?_, ?_⟩
 ·show d.K W (f (mk y)) cs
  rw [hf]
  exact hy
 ·show g (f (mk y))
  rw [hf]
  exact hg
theorem Opens.at_ {H : Type} {enc : TypeId × Value → H} {W : World} {sp : Nat → Bool} {t : TypeId} {v : Value} {x : DataW H} {ps : List MemPlace} {α : Type} {d : Kd α} {g : α → Prop} (ho : Opens P t d g) (h : DataW.Trod enc P W 0 sp true t v x ps) : ∃ y, d.K W y v.cells.toList ∧ g y := by
 obtain ⟨fuel, hf⟩ := h
 exact ho enc W sp fuel _ _ hf
/-- A value of a struct or array type is its cells. -/
theorem agg_of_struct {r : Reach} {b0 : Nat} {W : World} {t : TypeId} {fs : Array Field} {v : Value} (ht : P.underlying t = some (.struct fs)) (hv : Value.okWide P W r b0 t v) : ∃ cs, v = .agg cs := by
 obtain ⟨cs, rfl, _⟩ := WideShapes.okWide_struct ht hv
 exact ⟨cs, rfl⟩
theorem agg_of_array {r : Reach} {b0 : Nat} {W : World} {t e : TypeId} {n : Nat} {v : Value} (ht : P.underlying t = some (.array n e)) (hv : Value.okWide P W r b0 t v) : ∃ cs, v = .agg cs := by
 simp only [Value.okWide, ht] at hv
 obtain ⟨cs, rfl, _⟩ := hv
 exact ⟨cs, rfl⟩
theorem agg_cells {cs : Array Value} {l : List Value} (h : (Value.agg cs).cells.toList = l) : Value.agg cs = .agg l.toArray := by
 simp only [Value.cells] at h
 rw [← h]
end Go.Proofs.YtfdoncgljohndaaH
namespace Go.Proofs.Ytfdoncgljohndaa.fieldMatchesReference
open Go.ChangeShapes Go.WideShapes Go.ChangeAt Go.RowKit Go.Proofs.YtfdoncgljohndaaH Go.Proofs.Ytfdoncgljohndaa.P Go.Proofs.YtfdoncgljohndaaW.PrintWords
open Go.ChangeMaps (open_string shut_string)
theorem own : ownKnob Try.prog.godebug = none := by kernel_rfl
theorem laidOut : laidOutB Try.prog = true := by kernel_rfl
set_option maxRecDepth 100000 in
set_option maxHeartbeats 4000000 in
theorem lifted (os : Os) (started : os.Started) (H : Type) (enc : TypeId × Value → H) :
  ReturnsInHanded {} Try.checked os 3 .any (Rows.fieldMatchesReferenceSpec.pre6 enc Try.prog Try.f3 Rows.fieldMatchesReferenceRow.domain false) (Rows.fieldMatchesReferenceSpec.post enc Try.prog Try.f3 false true false false) := by
 refine returnsInHanded_of_change_sized (C := Try.checked) own started (by kernel_rfl) Try.func3
  (ChangeSpec.witness6 (enc := enc) (C := Try.checked) false ⟨#[], #[.agg #[(.int .u8 0), (.slice none 0 0), (.int .u8 0)], .agg #[(.int .i64 0), (.int .i64 0), (.int .i64 0)], .agg #[(.int .i64 0), (.int .i64 0), (.int .i64 0), (.int .i64 0), (.int .i64 0), (.int .i64 0), (.int .u64 0)]], []⟩ 8 (by kernel_rfl) (by kernel_rfl) (by kernel_rfl) (by kernel_rfl)) ?_
 intro W base args ds gs before hval0 hW hcnd hsz0 _
 have hval : ∀ (j : Nat) t v, Try.f3.params[j]? = some t → args[j]? = some v → Value.okWide Try.prog W .any base t v := hval0
 have hW' := hW
 obtain ⟨p, q, hA0, hV, rfl, hfz, hnd⟩ := hW
 have hA : DataW.TrodAll enc Try.prog W 0 (fun _ => true) true Try.f3.params.toList args.toList ds p := hA0
 rw [Try.params3] at hA hval
 obtain ⟨v0, vs0, d0, ds0, p0, q0, hargs, rfl, rfl, h0, r0⟩ := trodAll_cons hA
 obtain ⟨v1, vs1, d1, ds1, p1, q1, rfl, rfl, rfl, h1, r1⟩ := trodAll_cons r0
 obtain ⟨v2, vs2, d2, ds2, p2, q2, rfl, rfl, rfl, h2, r2⟩ := trodAll_cons r1
 obtain ⟨rfl, rfl, rfl⟩ := trodAll_nil r2
 obtain rfl : args = #[v0, v1, v2] := by cases args; simp_all
 obtain ⟨rfl, rfl⟩ := trodVars_none hV
 obtain ⟨cs0, rfl⟩ := agg_of_struct Try.underlying24 (hval 0 24 v0 rfl rfl)
 have k0 := h0
 have lt0 : ∀ x ∈ p0, x.block < W.heap.size := by obtain ⟨m, hm⟩ := k0; exact DataW.trod_lt m _ _ _ hm
 obtain ⟨y0, K0, g0⟩ := Opens.at_ (show Opens Try.prog 24 k24 _ from opens_iso (fun x : S24 => (x.f0, x.f1, x.f2)) (fun y => (⟨y.1, y.2.1, y.2.2⟩ : S24)) (fun _ => rfl) (opens_struct Try.underlying24 (opens_next (opens_int Try.underlying5) (by kernel_rfl) (opens_next (opens_slice Try.underlying22 (show Opens Try.prog 58 k58 _ from opens_iso (fun x : S58 => x.f0) (fun y => (⟨y⟩ : S58)) (fun _ => rfl) (opens_struct Try.underlying58 (opens_last (show Opens Try.prog 56 k56 _ from opens_iso (fun x : S56 => (x.f0, x.f1, x.f2, x.f3, x.f4, x.f5)) (fun y => (⟨y.1, y.2.1, y.2.2.1, y.2.2.2.1, y.2.2.2.2.1, y.2.2.2.2.2⟩ : S56)) (fun _ => rfl) (opens_array Try.underlying56 (opens_next (opens_int Try.underlying5) (by kernel_rfl) (opens_next (opens_int Try.underlying5) (by kernel_rfl) (opens_next (opens_int Try.underlying5) (by kernel_rfl) (opens_next (opens_int Try.underlying5) (by kernel_rfl) (opens_next (opens_int Try.underlying5) (by kernel_rfl) (opens_last (opens_int Try.underlying5) (by kernel_rfl))))))) (by kernel_rfl))) (by kernel_rfl)) (by kernel_rfl))) (by kernel_rfl)) (by kernel_rfl) (opens_last (opens_int Try.underlying5) (by kernel_rfl)))) (by kernel_rfl))) h0
 obtain ⟨A0_1, C0_1, e0, l0_1, rr0_1⟩ := k24_open K0
 obtain rfl := Value.agg.inj (agg_cells e0)
 obtain ⟨cs1, rfl⟩ := agg_of_array Try.underlying25 (hval 1 25 v1 rfl rfl)
 have k1 := h1
 have lt1 : ∀ x ∈ p1, x.block < W.heap.size := by obtain ⟨m, hm⟩ := k1; exact DataW.trod_lt m _ _ _ hm
 obtain ⟨y1, K1, g1⟩ := Opens.at_ (show Opens Try.prog 25 k25 _ from opens_iso (fun x : S25 => (x.f0, x.f1, x.f2)) (fun y => (⟨y.1, y.2.1, y.2.2⟩ : S25)) (fun _ => rfl) (opens_array Try.underlying25 (opens_next (opens_int Try.underlying3) (by kernel_rfl) (opens_next (opens_int Try.underlying3) (by kernel_rfl) (opens_last (opens_int Try.underlying3) (by kernel_rfl)))) (by kernel_rfl))) h1
 have e1 := k25_open K1
 obtain rfl := Value.agg.inj (agg_cells e1)
 obtain ⟨cs2, rfl⟩ := agg_of_struct Try.underlying28 (hval 2 28 v2 rfl rfl)
 have k2 := h2
 have lt2 : ∀ x ∈ p2, x.block < W.heap.size := by obtain ⟨m, hm⟩ := k2; exact DataW.trod_lt m _ _ _ hm
 obtain ⟨y2, K2, g2⟩ := Opens.at_ (show Opens Try.prog 28 k28 _ from opens_iso (fun x : S28 => (x.f0, x.f1, x.f2, x.f3, x.f4, x.f5, x.f6)) (fun y => (⟨y.1, y.2.1, y.2.2.1, y.2.2.2.1, y.2.2.2.2.1, y.2.2.2.2.2.1, y.2.2.2.2.2.2⟩ : S28)) (fun _ => rfl) (opens_struct Try.underlying28 (opens_next (opens_int Try.underlying3) (by kernel_rfl) (opens_next (opens_int Try.underlying3) (by kernel_rfl) (opens_next (opens_int Try.underlying3) (by kernel_rfl) (opens_next (opens_int Try.underlying3) (by kernel_rfl) (opens_next (opens_int Try.underlying3) (by kernel_rfl) (opens_next (opens_int Try.underlying3) (by kernel_rfl) (opens_last (opens_int Try.underlying26) (by kernel_rfl)))))))) (by kernel_rfl))) h2
 have e2 := k28_open K2
 obtain rfl := Value.agg.inj (agg_cells e2)
 obtain ⟨k, hk⟩ := Pure.FieldMatchesReference y0.f0 y0.f1 y0.f2 y1.f0 y1.f1 y1.f2 y2.f0 y2.f1 y2.f2 y2.f3 y2.f4 y2.f5 y2.f6 g0 g1 g2
 clear hA0 hval0 hsz0
 refine (parolelaw32_FieldMatchesReference.calls k y0.f0 _ _ y0.f1 y0.f2 y1.f0 y1.f1 y1.f2 y2.f0 y2.f1 y2.f2 y2.f3 y2.f4 y2.f5 y2.f6 true W rr0_1 l0_1 rfl hk).mono fun e W' hpost => ?_
 obtain ⟨he, bel0⟩ := hpost
 have bel : Below W.heap.size W W' := bel0
 subst he
 exact ⟨_, rfl, _, _, _, [], _, [], hW', trodAll_mk1 (shut_bool Try.underlying4 _), (trodAll_cons_mk (Below.trod laidOut (by kernel_rfl) (of_decide_eq_true (by kernel_rfl)) k0 bel lt0) (trodAll_cons_mk (Below.trod laidOut (by kernel_rfl) (of_decide_eq_true (by kernel_rfl)) k1 bel lt1) (trodAll_cons_mk (Below.trod laidOut (by kernel_rfl) (of_decide_eq_true (by kernel_rfl)) k2 bel lt2) trodAll_mk0))), rfl, bel.frame _, fun h => by cases h⟩
theorem over : Rows.fieldMatchesReferenceRow.holds Try.pinned (OpenSpec.ofChange Rows.fieldMatchesReferenceSpec) :=
 OpenClaim.holds_of_wide 3 Try.f3 rfl rfl rfl rfl rfl rfl rfl ⟨rfl, rfl, rfl, rfl, rfl⟩ rfl rfl rfl rfl rfl (by kernel_rfl) Try.func3 (by kernel_rfl)
  (of_decide_eq_true (by kernel_rfl)) (by unfold Func.isWrapper; first | (rw [if_pos (by decide +kernel)]; kernel_rfl) | (rw [if_neg (by decide +kernel)]; exact ⟨rfl, rfl⟩))
  (fun os started H enc _ => lifted os started H enc)
theorem proved : Rows.FieldMatchesReferenceSaid := over
end Go.Proofs.Ytfdoncgljohndaa.fieldMatchesReference
namespace Go.Proofs.Ytfdoncgljohndaa
/-- The row, under a short name, for the claim. -/
theorem fieldMatchesReference_holds : Rows.FieldMatchesReferenceSaid := fieldMatchesReference.proved
end Go.Proofs.Ytfdoncgljohndaa

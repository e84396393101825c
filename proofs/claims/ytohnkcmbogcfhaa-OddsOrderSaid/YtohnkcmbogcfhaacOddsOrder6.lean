/- OddsOrder: the order of the answers is of no account. The plain law. -/
import Derived.Test.YtohnkcmbogcfhaacOddsOrder5
import Derived.Deep.Slices
import Derived.WideShapes
import Derived.OpenShut
import Derived.ShutString
import Derived.ChangeOld
import Derived.SizedLaws
import Derived.Deep.OwnRows
import Derived.Laws.Rows
import Derived.Test.YtohnkcmbogcfhaaRows
set_option linter.unusedVariables false
set_option linter.unusedSimpArgs false
namespace Go.Proofs.Ytohnkcmbogcfhaa.Pure
open Go.RowKit Go.Proofs.Ytohnkcmbogcfhaa.P Go.Proofs.Ytohnkcmbogcfhaa.R Go.Proofs.YtohnkcmbogcfhaaW.PrintWords Go.Proofs.YtohnkcmbogcfhaaW.PrintLast
/-- A sum over the first n places. -/
def sm (g : Nat → Nat) : Nat → Nat
 | 0 => 0
 | n + 1 => sm g n + g n
theorem sm_front (g : Nat → Nat) : ∀ n, sm g (n + 1) = g 0 + sm (fun j => g (j + 1)) n
 | 0 => by simp [sm]
 | n + 1 => by
  have := sm_front g n
  rw [sm, this]; simp only [sm]; omega
theorem sm_congr (g h : Nat → Nat) : ∀ n, (∀ j, j < n → g j = h j) → sm g n = sm h n
 | 0, _ => rfl
 | n + 1, e => by rw [sm, sm, sm_congr g h n (fun j hj => e j (by omega)), e n (by omega)]
theorem sm_rev : ∀ (n : Nat) (g : Nat → Nat), sm (fun j => g (n - 1 - j)) n = sm g n
 | 0, _ => rfl
 | n + 1, g => by
  rw [sm_front]
  have e : sm (fun j => g (n + 1 - 1 - (j + 1))) n = sm (fun j => g (n - 1 - j)) n := sm_congr _ _ n (fun j hj => by congr 1; omega)
  rw [e, sm_rev n g]
  simp only [sm, Nat.add_sub_cancel, Nat.sub_zero]
  omega
theorem sm_add (g h : Nat → Nat) : ∀ n, sm (fun j => g j + h j) n = sm g n + sm h n
 | 0 => rfl
 | n + 1 => by simp only [sm, sm_add g h n]; omega
theorem sm_le (g : Nat → Nat) (hg : ∀ j, g j ≤ 1) : ∀ n, sm g n ≤ n
 | 0 => Nat.le_refl _
 | n + 1 => by have := sm_le g hg n; have := hg n; simp only [sm]; omega
def gR (l : List Int) (k : Int) (j : Nat) : Nat := if 1 + (rd l (j : Int)) % 14 = k ∧ decide (rd l (j : Int) ≥ 128) = true then 1 else 0
def gW (l : List Int) (k : Int) (j : Nat) : Nat := if 1 + (rd l (j : Int)) % 14 = k ∧ decide (rd l (j : Int) ≥ 128) = false then 1 else 0
theorem gR_le (l : List Int) (k : Int) (j : Nat) : gR l k j ≤ 1 := by unfold gR; split <;> omega
theorem gW_le (l : List Int) (k : Int) (j : Nat) : gW l k j ≤ 1 := by unfold gW; split <;> omega
/-- A book that holds what m held, and R and W answers besides. -/
def Holds (l m : List S71) (R W : Int → Nat) : Prop := Book l ∧ ∀ k, cr l k = cr m k + R k ∧ cw l k = cw m k + W k ∧ (has l k = true ↔ has m k = true ∨ 0 < R k + W k)
theorem has_ans (k j : Int) (right : Bool) : (has [ans k right] j = true) ↔ k = j := by
 rw [has_iff]; cases right <;> simp [ans]
theorem book_nil : Book [] := ⟨⟨List.Pairwise.nil, fun _ h => by cases h⟩, fun _ h => by cases h⟩
theorem holds_eq (a b m : List S71) (R W : Int → Nat) (ha : Holds a m R W) (hb : Holds b m R W) : a = b := by
 refine sorted_ext a b ha.1.1.1 hb.1.1.1 (fun k => ?_) (fun k => ?_)
 ·have h1 := (ha.2 k).2.2; have h2 := (hb.2 k).2.2
  exact Bool.eq_iff_iff.mpr (h1.trans h2.symm)
 ·have h1 := ref_look a ha.1 k; have h2 := ref_look b hb.1 k
  have e1 := ha.2 k; have e2 := hb.2 k
  have f1 := look_f0 a k; have f2 := look_f0 b k
  have : (Go.Proofs.Ytohnkcmbogcfhaa.R.look a k).f1 = (Go.Proofs.Ytohnkcmbogcfhaa.R.look b k).f1 := by rw [h1.1, h2.1]; omega
  have : (Go.Proofs.Ytohnkcmbogcfhaa.R.look a k).f2 = (Go.Proofs.Ytohnkcmbogcfhaa.R.look b k).f2 := by rw [h1.2, h2.2]; omega
  cases hx : Go.Proofs.Ytohnkcmbogcfhaa.R.look a k; cases hy : Go.Proofs.Ytohnkcmbogcfhaa.R.look b k; simp_all
/-- One answer more. -/
theorem holds_more (l m : List S71) (R W : Int → Nat) (h : Holds l m R W) (x : Int) (hx : 0 ≤ x ∧ x ≤ 255) (R' W' : Int → Nat)
  (eR : ∀ k, R' k = R k + if 1 + x % 14 = k ∧ decide (x ≥ 128) = true then 1 else 0) (eW : ∀ k, W' k = W k + if 1 + x % 14 = k ∧ decide (x ≥ 128) = false then 1 else 0) :
  ∃ p : List S71 × Int, Ev (fun n => ooLearn n l x) p ∧ Book p.1 ∧ (p.2 = 0 → Holds p.1 m R' W') ∧ (p.2 ≠ 0 → ∃ k, 1073741824 < cr m k + R' k ∨ 1073741824 < cw m k + W' k) := by
 have e2 : x.tmod 14 = x % 14 := Int.tmod_eq_emod_of_nonneg hx.1
 have e3 : wrap64 (1 + wrap64 (Int.tmod x 14)) = 1 + x % 14 := by
  rw [e2, wrap64_of (n := x % 14) (by omega) (by omega), wrap64_of (by omega) (by omega)]
 have hk : 1 ≤ 1 + x % 14 ∧ 1 + x % 14 ≤ 14 := by omega
 have hA := ans_book (1 + x % 14) hk (decide (x ≥ 128))
 have hl := learnR_of l (1 + x % 14) hk (decide (x ≥ 128))
 have hE : Ev (fun n => ooLearn n l x) (joinR l [ans (1 + x % 14) (decide (x ≥ 128))]) := by
  unfold ooLearn parolelaw37_learned.f
  rw [e3, ← hl]
  exact Ev.bind (ev_Learn l _ _ (by have := sorted_length l h.1.1; omega)) (Ev.now _)
 obtain ⟨jp, jh, jl⟩ := join_spec l _ h.1 hA
 have jc := join_cr l _ h.1 hA
 refine ⟨_, hE, ?_⟩
 rcases joinR_cases l [ans (1 + x % 14) (decide (x ≥ 128))] h.1 hA with ⟨e, hn⟩ | ⟨e, hb⟩
 ·rw [e]
  refine ⟨book_nil, (fun h => by cases h), fun _ => ?_⟩
  refine Classical.byContradiction fun hc => hn ⟨jp, (small_all _ jp.1).2 fun k => ?_⟩
  have hk2 := h.2 k
  have n1 := look_nn _ jp.2 k
  have c1 := (jc k).1; have c2 := (jc k).2
  have ca := cr_ans (1 + x % 14) k (decide (x ≥ 128))
  rw [ca.1] at c1; rw [ca.2] at c2
  have q1 := eR k; have q2 := eW k
  have : ¬ (1073741824 < cr m k + R' k ∨ 1073741824 < cw m k + W' k) := fun hh => hc ⟨k, hh⟩
  unfold small
  unfold cr at c1; unfold cw at c2
  simp only [not_or] at this
  have d1 : ((Go.Proofs.Ytohnkcmbogcfhaa.R.look (joinL l [ans (1 + x % 14) (decide (x ≥ 128))]) k).f1).toNat = cr m k + R' k := by rw [q1, ← Nat.add_assoc, ← hk2.1]; exact c1
  have d2 : ((Go.Proofs.Ytohnkcmbogcfhaa.R.look (joinL l [ans (1 + x % 14) (decide (x ≥ 128))]) k).f2).toNat = cw m k + W' k := by rw [q2, ← Nat.add_assoc, ← hk2.2.1]; exact c2
  omega
 ·rw [e]
  refine ⟨hb, fun _ => ⟨hb, fun k => ?_⟩, fun h => absurd rfl h⟩
  have hk2 := h.2 k
  have ca := cr_ans (1 + x % 14) k (decide (x ≥ 128))
  have q1 := eR k; have q2 := eW k
  refine ⟨?_, ?_, ?_⟩
  ·rw [(jc k).1, ca.1, hk2.1, q1, Nat.add_assoc]
  ·rw [(jc k).2, ca.2, hk2.2.1, q2, Nat.add_assoc]
  ·rw [jh k, Bool.or_eq_true, hk2.2.2, has_ans, q1, q2]
   by_cases hh : 1 + x % 14 = k
   ·by_cases hx8 : x ≥ 128 <;> simp [hh, hx8] <;> exact Or.inr (by omega)
   ·simp [hh]
theorem rd_wf (l : List Int) (h : ∀ x ∈ l, (Lit.int .u8 x).wf = true) (j : Nat) (hj : j < l.length) : 0 ≤ rd l (j : Int) ∧ rd l (j : Int) ≤ 255 := by
 have : rd l (j : Int) ∈ l := by unfold rd; simp [hj]
 exact wf_u8 (h _ this)
/-- One answer more, or none, while no error has come. -/
theorem ooA_more (l m : List S71) (e : Int) (R W : Int → Nat) (hB : Book l) (h : e = 0 → Holds l m R W) (x : Int) (hx : 0 ≤ x ∧ x ≤ 255) (R' W' : Int → Nat)
  (eR : ∀ k, R' k = R k + if 1 + x % 14 = k ∧ decide (x ≥ 128) = true then 1 else 0) (eW : ∀ k, W' k = W k + if 1 + x % 14 = k ∧ decide (x ≥ 128) = false then 1 else 0) :
  ∃ p : List S71 × Int, Ev (fun n => ooA n l e x) p ∧ Book p.1 ∧ (p.2 = 0 → Holds p.1 m R' W') := by
 by_cases h0 : e = 0
 ·obtain ⟨p, h1, h2, h3, _⟩ := holds_more l m R W (h h0) x hx R' W' eR eW
  exact ⟨p, Ev.congr (fun n => by unfold ooA; rw [if_pos h0]) h1, h2, h3⟩
 ·exact ⟨(l, e), Ev.congr (fun n => by unfold ooA; rw [if_neg h0]) (Ev.now _), hB, fun he => absurd he h0⟩
/-- What stands ahead of round i. -/
structure At (l : List Int) (m : List S71) (cut i : Nat) (la : List S71) (ea : Int) (lb : List S71) (eb : Int) (lc : List S71) (ld : List S71) (ed : Int) : Prop where
 a : Book la ∧ (ea = 0 → Holds la m (fun k => sm (gR l k) i) (fun k => sm (gW l k) i))
 b : Book lb ∧ (eb = 0 → Holds lb m (fun k => sm (fun j => gR l k (l.length - 1 - j)) i) (fun k => sm (fun j => gW l k (l.length - 1 - j)) i))
 c : Holds lc [] (fun k => sm (fun j => if j < cut then gR l k j else 0) i) (fun k => sm (fun j => if j < cut then gW l k j else 0) i)
 d : Book ld ∧ (ed = 0 → Holds ld m (fun k => sm (fun j => if j < cut then 0 else gR l k j) i) (fun k => sm (fun j => if j < cut then 0 else gW l k j) i))
theorem Holds.congr {l m : List S71} {R W R' W' : Int → Nat} (h : Holds l m R W) (e1 : ∀ k, R' k = R k) (e2 : ∀ k, W' k = W k) : Holds l m R' W' := by
 have a := funext e1; have b := funext e2
 subst a; subst b; exact h
theorem pre_eq (a b : List S71) (ha : Pre a) (hb : Pre b) (hh : ∀ k, has a k = has b k) (hr : ∀ k, cr a k = cr b k ∧ cw a k = cw b k) : a = b := by
 refine sorted_ext a b ha.1 hb.1 hh (fun k => ?_)
 have h1 := look_nn a ha.2 k; have h2 := look_nn b hb.2 k
 have e := hr k
 unfold cr cw at e
 have f1 := look_f0 a k; have f2 := look_f0 b k
 have g1 : (Go.Proofs.Ytohnkcmbogcfhaa.R.look a k).f1 = (Go.Proofs.Ytohnkcmbogcfhaa.R.look b k).f1 := by omega
 have g2 : (Go.Proofs.Ytohnkcmbogcfhaa.R.look a k).f2 = (Go.Proofs.Ytohnkcmbogcfhaa.R.look b k).f2 := by omega
 clear h1 h2 e
 generalize Go.Proofs.Ytohnkcmbogcfhaa.R.look a k = x at *
 generalize Go.Proofs.Ytohnkcmbogcfhaa.R.look b k = y at *
 cases x; cases y; simp_all
theorem ooL_succ (k : Nat) (l : List Int) (cut : Int) (n : Nat) (i : Int) (la lb lc ld : List S71) (ea eb ec ed : Int) : ooL k l cut (n + 1) i la ea lb eb lc ec ld ed = (if i < (l.length : Int) then
   (ooA k la ea (rd l i)).bind fun a => (ooA k lb eb (rd l (l.length - 1 - i))).bind fun b => (ooC k (decide (i < wrap64 cut)) lc ec (rd l i)).bind fun c => (ooD k (decide (i < wrap64 cut)) ld ed (rd l i)).bind fun d =>
    ooL k l cut n (i + 1) a.1 a.2 b.1 b.2 c.1 c.2 d.1 d.2
  else some (la, ea, lb, eb, lc, ec, ld, ed)) := by rw [ooL]
theorem ev_ooL (l : List Int) (m : List S71) (cut : Int) (c : Nat) (hc : wrap64 cut = (c : Int)) (hl : l.length ≤ 40) (hw : ∀ x ∈ l, (Lit.int .u8 x).wf = true) : ∀ (d i : Nat), i + d = l.length → ∀ (la lb lc ld : List S71) (ea eb ec ed : Int), At l m c i la ea lb eb lc ld ed →
  ∃ s, Ev (fun k => ooL k l cut (d + 1) (i : Int) la ea lb eb lc ec ld ed) s ∧ At l m c l.length s.1 s.2.1 s.2.2.1 s.2.2.2.1 s.2.2.2.2.1 s.2.2.2.2.2.2.1 s.2.2.2.2.2.2.2 := by
 intro d
 induction d with
 | zero =>
  intro i hi la lb lc ld ea eb ec ed h
  obtain rfl : i = l.length := by omega
  exact ⟨(la, ea, lb, eb, lc, ec, ld, ed), Ev.congr (fun k => ooL_succ ..) (Ev.neg (by omega) (Ev.now _)), h⟩
 | succ d ih =>
  intro i hi la lb lc ld ea eb ec ed h
  have hx := rd_wf l hw i (by omega)
  have hy := rd_wf l hw (l.length - 1 - i) (by omega)
  have ej : (l.length : Int) - 1 - (i : Int) = ((l.length - 1 - i : Nat) : Int) := by omega
  have ei : (i : Int) + 1 = ((i + 1 : Nat) : Int) := by omega
  obtain ⟨pa, va, ba, na⟩ := ooA_more la m ea _ _ h.a.1 h.a.2 _ hx (fun k => sm (gR l k) (i + 1)) (fun k => sm (gW l k) (i + 1)) (fun _ => rfl) (fun _ => rfl)
  obtain ⟨pb, vb, bb, nb⟩ := ooA_more lb m eb _ _ h.b.1 h.b.2 _ hy (fun k => sm (fun j => gR l k (l.length - 1 - j)) (i + 1)) (fun k => sm (fun j => gW l k (l.length - 1 - j)) (i + 1)) (fun _ => rfl) (fun _ => rfl)
  have hC : ∃ p : List S71 × Int, Ev (fun n => ooC n (decide ((i : Int) < wrap64 cut)) lc ec (rd l (i : Int))) p ∧ Holds p.1 [] (fun k => sm (fun j => if j < c then gR l k j else 0) (i + 1)) (fun k => sm (fun j => if j < c then gW l k j else 0) (i + 1)) := by
   by_cases hcut : i < c
   ·obtain ⟨p, v, b, n, z⟩ := holds_more lc [] _ _ h.c _ hx (fun k => sm (fun j => if j < c then gR l k j else 0) (i + 1)) (fun k => sm (fun j => if j < c then gW l k j else 0) (i + 1))
     (fun k => by simp only [sm, if_pos hcut]; rfl) (fun k => by simp only [sm, if_pos hcut]; rfl)
    refine ⟨p, Ev.congr (fun n => by unfold ooC; rw [decide_eq_true (by omega), if_pos rfl]) v, ?_⟩
    by_cases hp : p.2 = 0
    ·exact n hp
    ·obtain ⟨k, hk⟩ := z hp
     have b1 := sm_le (fun j => if j < c then gR l k j else 0) (fun j => by have := gR_le l k j; (try dsimp only); split <;> omega) (i + 1)
     have b2 := sm_le (fun j => if j < c then gW l k j else 0) (fun j => by have := gW_le l k j; (try dsimp only); split <;> omega) (i + 1)
     have c0 : cr [] k = 0 ∧ cw [] k = 0 := ⟨rfl, rfl⟩
     omega
   ·refine ⟨(lc, ec), Ev.congr (fun n => by unfold ooC; rw [decide_eq_false (by omega), if_neg (by decide)]) (Ev.now _), h.c.congr (fun k => ?_) (fun k => ?_)⟩ <;> simp only [sm, if_neg hcut, Nat.add_zero]
  have hD : ∃ p : List S71 × Int, Ev (fun n => ooD n (decide ((i : Int) < wrap64 cut)) ld ed (rd l (i : Int))) p ∧ Book p.1 ∧ (p.2 = 0 → Holds p.1 m (fun k => sm (fun j => if j < c then 0 else gR l k j) (i + 1)) (fun k => sm (fun j => if j < c then 0 else gW l k j) (i + 1))) := by
   by_cases hcut : i < c
   ·refine ⟨(ld, ed), Ev.congr (fun n => by unfold ooD; rw [decide_eq_true (by omega), if_pos rfl]) (Ev.now _), h.d.1, fun he => (h.d.2 he).congr (fun k => ?_) (fun k => ?_)⟩ <;> simp only [sm, if_pos hcut, Nat.add_zero]
   ·obtain ⟨p, v, b, n⟩ := ooA_more ld m ed _ _ h.d.1 h.d.2 _ hx (fun k => sm (fun j => if j < c then 0 else gR l k j) (i + 1)) (fun k => sm (fun j => if j < c then 0 else gW l k j) (i + 1))
     (fun k => by simp only [sm, if_neg hcut]; rfl) (fun k => by simp only [sm, if_neg hcut]; rfl)
    exact ⟨p, Ev.congr (fun n => by unfold ooD; rw [decide_eq_false (by omega), if_neg (by decide)]) v, b, n⟩
  obtain ⟨pc, vc, nc⟩ := hC
  obtain ⟨pd, vd, bd, nd⟩ := hD
  obtain ⟨s, hs, hS⟩ := ih (i + 1) (by omega) pa.1 pb.1 pc.1 pd.1 pa.2 pb.2 pc.2 pd.2 ⟨⟨ba, na⟩, ⟨bb, nb⟩, nc, ⟨bd, nd⟩⟩
  rw [← ej] at vb
  rw [← ei] at hs
  exact ⟨s, Ev.congr (fun k => ooL_succ ..) (Ev.pos (by omega) (Ev.bind va (Ev.bind vb (Ev.bind vc (Ev.bind vd hs))))), hS⟩
theorem OddsOrder : parolelaw37_OddsOrder.Pure := by
 intro l0 l1 a2 h0 h1 h2
 refine Ev.rounds (g := fun k => parolelaw37_OddsOrder.f k l0 l1 a2) ?_
 unfold parolelaw37_OddsOrder.f
 refine Ev.ite (fun _ => Ev.now _) (fun hlen => ?_)
 have hr : ∀ x ∈ l0, raw x := fun x hx => raw_of (h0.2 x hx)
 have hB := made_book l0 hr
 refine Ev.bind (ev_Made l0 (by omega) hr) ?_
 generalize madeL l0 = m at hB ⊢
 have w2 := wf_u8 h2
 have hc : wrap64 a2 = (a2.toNat : Int) := by rw [wrap64_of (by omega) (by omega)]; omega
 have hm0 : Holds m m (fun _ => 0) (fun _ => 0) := ⟨hB, fun k => ⟨rfl, rfl, by simp⟩⟩
 have hn0 : Holds [] [] (fun _ => 0) (fun _ => 0) := ⟨book_nil, fun k => ⟨rfl, rfl, by simp⟩⟩
 obtain ⟨s, hs, hS⟩ := ev_ooL l1 m a2 a2.toNat hc (by omega) h1.2 l1.length 0 (by omega) m m [] m 0 0 0 0 ⟨⟨hB, fun _ => hm0⟩, ⟨hB, fun _ => hm0⟩, hn0, ⟨hB, fun _ => hm0⟩⟩
 refine Ev.bind hs ?_
 obtain ⟨la, ea, lb, eb, lc, ec, ld, ed⟩ := s
 dsimp only at hS ⊢
 unfold ooEnd
 refine Ev.ite (fun _ => Ev.now _) (fun hE => ?_)
 obtain ⟨ea0, eb0, ed0⟩ : ea = 0 ∧ eb = 0 ∧ ed = 0 := by omega
 have A := hS.a.2 ea0
 have B := (hS.b.2 eb0).congr (R' := fun k => sm (gR l1 k) l1.length) (W' := fun k => sm (gW l1 k) l1.length) (fun k => (sm_rev l1.length (gR l1 k)).symm) (fun k => (sm_rev l1.length (gW l1 k)).symm)
 have C := hS.c
 have D := hS.d.2 ed0
 have eab : la = lb := holds_eq la lb m _ _ A B
 have sR : ∀ k, sm (gR l1 k) l1.length = sm (fun j => if j < a2.toNat then gR l1 k j else 0) l1.length + sm (fun j => if j < a2.toNat then 0 else gR l1 k j) l1.length := fun k => by
  rw [← sm_add]; exact sm_congr _ _ _ (fun j _ => by (try dsimp only); split <;> omega)
 have sW : ∀ k, sm (gW l1 k) l1.length = sm (fun j => if j < a2.toNat then gW l1 k j else 0) l1.length + sm (fun j => if j < a2.toNat then 0 else gW l1 k j) l1.length := fun k => by
  rw [← sm_add]; exact sm_congr _ _ _ (fun j _ => by (try dsimp only); split <;> omega)
 have part : ∀ k, cr la k = cr lc k + cr ld k ∧ cw la k = cw lc k + cw ld k ∧ (has la k = true ↔ has lc k = true ∨ has ld k = true) := fun k => by
  have a := A.2 k; have c := C.2 k; have d := D.2 k
  have c0 : cr [] k = 0 ∧ cw [] k = 0 ∧ has [] k = false := ⟨rfl, rfl, rfl⟩
  have r := sR k; have w := sW k
  dsimp only at a c d
  rw [c0.1, c0.2.1, c0.2.2] at c
  refine ⟨by omega, by omega, ?_⟩
  rw [a.2.2, c.2.2, d.2.2]
  by_cases hm : has m k = true
  ·simp [hm]
  ·simp only [hm, false_or, Bool.false_eq_true]; omega
 have j1 : joinL lc ld = la := by
  obtain ⟨jp, jh, _⟩ := join_spec lc ld C.1 D.1
  refine pre_eq _ _ jp A.1.1 (fun k => ?_) (fun k => ?_)
  ·rw [jh k]; exact Bool.eq_iff_iff.mpr (by rw [Bool.or_eq_true]; exact (part k).2.2.symm)
  ·have := join_cr lc ld C.1 D.1 k; have := part k; omega
 have j2 : joinL ld lc = la := by
  obtain ⟨jp, jh, _⟩ := join_spec ld lc D.1 C.1
  refine pre_eq _ _ jp A.1.1 (fun k => ?_) (fun k => ?_)
  ·rw [jh k]; exact Bool.eq_iff_iff.mpr (by rw [Bool.or_eq_true, Or.comm]; exact (part k).2.2.symm)
  ·have := join_cr ld lc D.1 C.1 k; have := part k; omega
 have len : ∀ x, Book x → x.length ≤ 14 := fun x h => sorted_length x h.1
 have l1' := len _ A.1; have l2' := len _ C.1; have l3' := len _ D.1
 have J : ∀ x y, Book x → Book y → joinL x y = la → Ev (fun k => parolelaw37_joined.f k x y) (la, 0) := fun x y hx hy h => by
  unfold parolelaw37_joined.f
  have e := ev_Join x y (by have := len x hx; have := len y hy; omega)
  rcases joinR_cases x y hx hy with ⟨_, hn⟩ | ⟨q, _⟩
  ·exact absurd (h ▸ A.1) hn
  ·rw [q, h] at e
   exact Ev.bind e (Ev.now _)
 have S := ev_same la 0 (by omega)
 subst eab
 subst ea0
 have S0 : Ev (fun k => paroleref37_Same.f k la la) true := by
  unfold paroleref37_Same.f
  exact Ev.pos rfl (same_l0 la (by omega) la.length 0 (by omega))
 exact Ev.bind S0 (Ev.pos rfl (Ev.bind (J lc ld C.1 D.1 j1) (Ev.bind S (Ev.pos rfl (Ev.bind (J ld lc D.1 C.1 j2) (Ev.bind S (Ev.pos rfl (Ev.now _))))))))
end Go.Proofs.Ytohnkcmbogcfhaa.Pure
namespace Go.Proofs.YtohnkcmbogcfhaaH
open Go.RowKit Go.Proofs.YtohnkcmbogcfhaaW.PrintWords
variable {P : Program}
/-- What can be read as_ a value of type t is a value of kind d, and g holds of it. -/
def Opens (P : Program) (t : TypeId) {α : Type} (d : Kd α) (g : α → Prop) : Prop :=
 ∀ {H : Type} (enc : TypeId × Value → H) (W : World) (sp : Nat → Bool) (fuel : Nat) (cs : List Value) (x : DataW H × List MemPlace), DataW.trod enc P W 0 sp true fuel t cs = some x → ∃ y, d.K W y cs ∧ g y
theorem opens_int {t : TypeId} {k : IntKind} (ht : P.underlying t = some (.int k)) : Opens P t (Kd.int k) (fun n => (Lit.int k n).wf = true) := by
 intro H enc W sp fuel cs x h
 obtain ⟨n, rfl, _, hw⟩ := DataW.trod_int ht h
 exact ⟨n, rfl, hw⟩
theorem opens_slice {t e : TypeId} {α : Type} {d : Kd α} {g : α → Prop} (ht : P.underlying t = some (.slice e)) (hd : Opens P e d g) (hs : P.cellsOf e = d.sz) :
  Opens P t (Kd.slice e d) (fun l => l.length ≤ maxLen ∧ ∀ x ∈ l, g x) := by
 intro H enc W sp fuel cs x h
 rcases Deep.open_slice ht h with ⟨rfl, _⟩ | ⟨a, len, cap, m, n, D, Pl, rfl, _, hl, hm, hme, _, hel⟩
 ·refine ⟨[], ⟨none, 0, rfl, Nat.le_refl _, rfl, Nat.zero_le _, fun h => absurd h (Nat.lt_irrefl _)⟩, Nat.zero_le _, by simp⟩
 ·have hlm : len ≤ m := by rw [hme]; split <;> omega
  have h1 : ∀ i, ∃ z : Option α, i < len → ∃ y c, z = some y ∧ W.cells? 0 (a.add (i * P.cellsOf e)) (P.cellsOf e) = some c ∧ d.K W y c ∧ g y := by
   intro i
   by_cases hi : i < len
   ·obtain ⟨c, hc, hx⟩ := hel i (by omega)
    obtain ⟨y, hy, hg⟩ := hd enc W sp n c _ hx
    exact ⟨some y, fun _ => ⟨y, c, rfl, hc, hy, hg⟩⟩
   ·exact ⟨none, fun h => absurd h hi⟩
  obtain ⟨f, hf⟩ := Classical.axiomOfChoice h1
  have h2 : ∀ i, i < len → ∃ y c, f i = some y ∧ W.cells? 0 (a.add (i * P.cellsOf e)) (P.cellsOf e) = some c ∧ d.K W y c ∧ g y := fun i hi => hf i hi
  have key : ∀ k, k ≤ len → ∃ l : List α, l.length = k ∧ ∀ i, i < k → l[i]? = f i := by
   intro k
   induction k with
   | zero => intro _; exact ⟨[], rfl, fun i hi => absurd hi (Nat.not_lt_zero _)⟩
   | succ k ih =>
    intro hk
    obtain ⟨l, hll, hli⟩ := ih (by omega)
    obtain ⟨y, c, hy, _⟩ := h2 k (by omega)
    refine ⟨l ++ [y], by simp [hll], fun i hi => ?_⟩
    by_cases hik : i < k
    ·rw [List.getElem?_append_left (by omega)]; exact hli i hik
    ·have : i = k := by omega
     subst this
     rw [List.getElem?_append_right (by omega), hll]
     simp [hy]
  obtain ⟨l, hll, hli⟩ := key len (Nat.le_refl _)
  refine ⟨l, ⟨some a, cap, by rw [hll], by omega, rfl, ?_, fun _ => ⟨a, rfl, ?_⟩⟩, by omega, ?_⟩
  ·rw [hll]; unfold maxLen at hm; omega
  ·intro j p hj
   have hjl : j < len := by rw [← hll]; exact (List.getElem?_eq_some_iff.1 hj).1
   obtain ⟨y, c, hy, hc, hK, _⟩ := h2 j hjl
   have : p = y := by
    rw [hli j hjl, hy] at hj
    exact (Option.some.inj hj).symm
   subst this
   refine ⟨c, d.K_len hK, hK, fun i u hu => ?_⟩
   obtain ⟨_, hcl, hcc⟩ := World.cells?_some hc
   have hi : i < P.cellsOf e := by rw [← hcl]; exact (List.getElem?_eq_some_iff.1 hu).1
   rw [← hs, ← Deep.add_add, hcc i hi, hu]
  ·intro x hx
   obtain ⟨j, hj⟩ := List.getElem?_of_mem hx
   have hjl : j < len := by rw [← hll]; exact (List.getElem?_eq_some_iff.1 hj).1
   obtain ⟨y, c, hy, hc, hK, hg⟩ := h2 j hjl
   rw [hli j hjl, hy] at hj
   rw [← Option.some.inj hj]
   exact hg
/-- The fields from an offset on. -/
def OpensAt (P : Program) (off : Nat) (fs : List (TypeId × Nat)) {α : Type} (d : Kd α) (g : α → Prop) : Prop :=
 ∀ {H : Type} (enc : TypeId × Value → H) (W : World) (sp : Nat → Bool) (fuel : Nat) (cs : List Value), cs.length = off + d.sz → (∀ f ∈ fs, ∃ x, DataW.trod enc P W 0 sp true fuel f.1 ((cs.drop f.2).take (P.cellsOf f.1)) = some x) → ∃ y, d.K W y (cs.drop off) ∧ g y
theorem opens_last {off : Nat} {t : TypeId} {α : Type} {d : Kd α} {g : α → Prop} (ho : Opens P t d g) (hs : P.cellsOf t = d.sz) : OpensAt P off [(t, off)] d g := by
 intro H enc W sp fuel cs hl hf
 obtain ⟨x, hx⟩ := hf (t, off) (by simp)
 have e : (cs.drop off).take (P.cellsOf t) = cs.drop off := List.take_of_length_le (by rw [List.length_drop, hs]; omega)
 rw [e] at hx
 exact ho enc W sp fuel _ x hx
theorem opens_next {off : Nat} {t : TypeId} {fs : List (TypeId × Nat)} {α β : Type} {d : Kd α} {d' : Kd β} {g : α → Prop} {g' : β → Prop} (ho : Opens P t d g) (hs : P.cellsOf t = d.sz) (hr : OpensAt P (off + d.sz) fs d' g') :
  OpensAt P off ((t, off) :: fs) (Kd.pair d d') (fun x => g x.1 ∧ g' x.2) := by
 intro H enc W sp fuel cs hl hf
 have hl' : cs.length = off + d.sz + d'.sz := by have : (Kd.pair d d').sz = d.sz + d'.sz := rfl; omega
 obtain ⟨x, hx⟩ := hf (t, off) (by simp)
 obtain ⟨y, hy, hg⟩ := ho enc W sp fuel _ x hx
 obtain ⟨y', hy', hg'⟩ := hr enc W sp fuel cs hl' (fun f h => hf f (by simp [h]))
 refine ⟨(y, y'), ⟨_, _, ?_, hy, hy'⟩, hg, hg'⟩
 show cs.drop off = (cs.drop off).take (P.cellsOf t) ++ cs.drop (off + d.sz)
 rw [hs, ← List.drop_drop, List.take_append_drop]
theorem opens_struct {t : TypeId} {fs : Array Field} {α : Type} {d : Kd α} {g : α → Prop} (ht : P.underlying t = some (.struct fs)) (ho : OpensAt P 0 (fs.toList.map fun f => (f.type, f.offset)) d g) (hs : P.cellsOf t = d.sz) : Opens P t d g := by
 intro H enc W sp fuel cs x h
 obtain ⟨xs, n, _, _, hl, hlen, hf⟩ := DataW.trod_struct ht h
 have := ho enc W sp n cs (by omega) (fun f hfm => by
  obtain ⟨f0, hm, rfl⟩ := List.mem_map.1 hfm
  obtain ⟨i, hi⟩ := List.getElem?_of_mem hm
  have hi' : fs[i]? = some f0 := by simpa using hi
  have hlt : i < fs.size := (Array.getElem?_eq_some_iff.1 hi').1
  have := hf i f0 hi'
  rw [List.getElem?_eq_getElem (by omega)] at this
  exact ⟨_, this⟩)
 simpa using this
theorem opens_iso {t : TypeId} {α β : Type} {d : Kd α} {g : α → Prop} (f : β → α) (mk : α → β) (hf : ∀ a, f (mk a) = a) (ho : Opens P t d g) : Opens P t (Kd.iso d f) (fun b => g (f b)) := by
 intro H enc W sp fuel cs x h
 obtain ⟨y, hy, hg⟩ := ho enc W sp fuel cs x h
 refine ⟨mk y, ?_, ?_⟩
 ·show d.K W (f (mk y)) cs
  rw [hf]
  exact hy
 ·show g (f (mk y))
  rw [hf]
  exact hg
theorem Opens.imp {t : TypeId} {α : Type} {d : Kd α} {g g' : α → Prop} (ho : Opens P t d g) (h : ∀ a, g a → g' a) : Opens P t d g' := by
 intro H enc W sp fuel cs x hx
 obtain ⟨y, hy, hg⟩ := ho enc W sp fuel cs x hx
 exact ⟨y, hy, h y hg⟩
theorem Opens.at_ {H : Type} {enc : TypeId × Value → H} {W : World} {sp : Nat → Bool} {t : TypeId} {v : Value} {x : DataW H} {ps : List MemPlace} {α : Type} {d : Kd α} {g : α → Prop} (ho : Opens P t d g) (h : DataW.Trod enc P W 0 sp true t v x ps) : ∃ y, d.K W y v.cells.toList ∧ g y := by
 obtain ⟨fuel, hf⟩ := h
 exact ho enc W sp fuel _ _ hf
end Go.Proofs.YtohnkcmbogcfhaaH
namespace Go.Proofs.Ytohnkcmbogcfhaa.oddsOrder
open Go.ChangeShapes Go.WideShapes Go.ChangeAt Go.RowKit Go.Proofs.YtohnkcmbogcfhaaH Go.Proofs.Ytohnkcmbogcfhaa.P Go.Proofs.YtohnkcmbogcfhaaW.PrintWords
open Go.ChangeMaps (open_string shut_string)
theorem own : ownKnob Try.prog.godebug = none := by kernel_rfl
theorem laidOut : laidOutB Try.prog = true := by kernel_rfl
set_option maxRecDepth 100000 in
set_option maxHeartbeats 4000000 in
theorem lifted (os : Os) (started : os.Started) (H : Type) (enc : TypeId × Value → H) :
  ReturnsInHanded {} Try.checked os 5 .any (Rows.oddsOrderSpec.pre6 enc Try.prog Try.f5 Rows.oddsOrderRow.domain false) (Rows.oddsOrderSpec.post enc Try.prog Try.f5 false true false false) := by
 refine returnsInHanded_of_change_sized (C := Try.checked) own started (by kernel_rfl) Try.func5
  (ChangeSpec.witness6 (enc := enc) (C := Try.checked) false ⟨#[], #[.slice none 0 0, .slice none 0 0, .int .u8 0], []⟩ 8 (by kernel_rfl) (by kernel_rfl) (by kernel_rfl) (by kernel_rfl)) ?_
 intro W base args ds gs before hval0 hW hcnd hsz0 _
 have hval : ∀ (j : Nat) t v, Try.f5.params[j]? = some t → args[j]? = some v → Value.okWide Try.prog W .any base t v := hval0
 have hW' := hW
 obtain ⟨p, q, hA0, hV, rfl, hfz, hnd⟩ := hW
 have hA : DataW.TrodAll enc Try.prog W 0 (fun _ => true) true Try.f5.params.toList args.toList ds p := hA0
 rw [Try.params5] at hA hval
 obtain ⟨v0, vs0, d0, ds0, p0, q0, hargs, rfl, rfl, h0, r0⟩ := trodAll_cons hA
 obtain ⟨v1, vs1, d1, ds1, p1, q1, rfl, rfl, rfl, h1, r1⟩ := trodAll_cons r0
 obtain ⟨v2, vs2, d2, ds2, p2, q2, rfl, rfl, rfl, h2, r2⟩ := trodAll_cons r1
 obtain ⟨rfl, rfl, rfl⟩ := trodAll_nil r2
 obtain rfl : args = #[v0, v1, v2] := by cases args; simp_all
 obtain ⟨rfl, rfl⟩ := trodVars_none hV
 obtain ⟨a0, n0, c0, rfl⟩ := okWide_slice Try.underlying23 (hval 0 23 v0 rfl rfl)
 have k0 := h0
 have lt0 : ∀ x ∈ p0, x.block < W.heap.size := by obtain ⟨m, hm⟩ := k0; exact DataW.trod_lt m _ _ _ hm
 obtain ⟨y0, K0, g0⟩ := Opens.at_ (opens_slice Try.underlying23 (show Opens Try.prog 96 k96 _ from opens_iso (fun x : S96 => (x.f0, x.f1, x.f2, x.f3)) (fun y => (⟨y.1, y.2.1, y.2.2.1, y.2.2.2⟩ : S96)) (fun _ => rfl) (opens_struct Try.underlying96 (opens_next (opens_int Try.underlying5) (by kernel_rfl) (opens_next (opens_int Try.underlying5) (by kernel_rfl) (opens_next (opens_int Try.underlying43) (by kernel_rfl) (opens_last (opens_int Try.underlying43) (by kernel_rfl))))) (by kernel_rfl))) (by kernel_rfl)) h0
 obtain ⟨A0, C0, e0, l0, rr0⟩ := K0
 obtain ⟨rfl, rfl, rfl⟩ : a0 = A0 ∧ n0 = y0.length ∧ c0 = C0 := by simpa [Value.cells] using e0
 obtain ⟨a1, n1, c1, rfl⟩ := okWide_slice Try.underlying42 (hval 1 42 v1 rfl rfl)
 have k1 := h1
 have lt1 : ∀ x ∈ p1, x.block < W.heap.size := by obtain ⟨m, hm⟩ := k1; exact DataW.trod_lt m _ _ _ hm
 obtain ⟨y1, K1, g1⟩ := Opens.at_ (opens_slice Try.underlying42 (opens_int Try.underlying5) (by kernel_rfl)) h1
 obtain ⟨A1, C1, e1, l1, rr1⟩ := K1
 obtain ⟨rfl, rfl, rfl⟩ : a1 = A1 ∧ n1 = y1.length ∧ c1 = C1 := by simpa [Value.cells] using e1
 obtain ⟨a2, rfl, rfl, rfl, w2⟩ := open_int Try.underlying5 (hval 2 5 v2 rfl rfl) h2
 obtain ⟨k, hk⟩ := Pure.OddsOrder y0 y1 a2 g0 g1 w2
 clear hA0 hval0 hsz0
 refine (parolelaw37_OddsOrder.calls k _ _ y0 _ _ y1 a2 true W rr0 l0 rr1 l1 rfl hk).mono fun e W' hpost => ?_
 obtain ⟨he, bel0⟩ := hpost
 have bel : Below W.heap.size W W' := bel0
 subst he
 exact ⟨_, rfl, _, _, _, [], _, [], hW', trodAll_mk1 (shut_bool Try.underlying4 _), (trodAll_cons_mk (Below.trod laidOut (by kernel_rfl) (of_decide_eq_true (by kernel_rfl)) k0 bel lt0) (trodAll_cons_mk (Below.trod laidOut (by kernel_rfl) (of_decide_eq_true (by kernel_rfl)) k1 bel lt1) (trodAll_cons_mk (shut_int Try.underlying5 w2) trodAll_mk0))), rfl, bel.frame _, fun h => by cases h⟩
theorem over : Rows.oddsOrderRow.holds Try.pinned (OpenSpec.ofChange Rows.oddsOrderSpec) :=
 OpenClaim.holds_of_wide 5 Try.f5 rfl rfl rfl rfl rfl rfl rfl ⟨rfl, rfl, rfl, rfl, rfl⟩ rfl rfl rfl rfl rfl (by kernel_rfl) Try.func5 (by kernel_rfl)
  (of_decide_eq_true (by kernel_rfl)) (by unfold Func.isWrapper; first | (rw [if_pos (by decide +kernel)]; kernel_rfl) | (rw [if_neg (by decide +kernel)]; exact ⟨rfl, rfl⟩))
  (fun os started H enc _ => lifted os started H enc)
theorem proved : Rows.OddsOrderSaid := over
end Go.Proofs.Ytohnkcmbogcfhaa.oddsOrder
namespace Go.Proofs.Ytohnkcmbogcfhaa
/-- The row, under a short name, for the claim. -/
theorem oddsOrder_holds : Rows.OddsOrderSaid := oddsOrder.proved
end Go.Proofs.Ytohnkcmbogcfhaa

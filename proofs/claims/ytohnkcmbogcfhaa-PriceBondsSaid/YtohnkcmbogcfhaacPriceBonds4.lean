/- A part of the claim PriceBonds: lemmas, printed functions with their contracts, plain laws. -/
import Derived.Test.YtohnkcmbogcfhaacPriceBonds3
import Derived.Scope
import Derived.Lib.SliceRun
set_option linter.unusedVariables false
set_option linter.unusedSimpArgs false
namespace Go.Proofs.Ytohnkcmbogcfhaa.P
open Go.RowKit Go.Shelf Go.Proofs.YtohnkcmbogcfhaaW.PrintWords
attribute [local go_sem] Oper.semAt_some
theorem scope_wide {n : Nat} {P : Program} {c : Code} {Q : Exit → Act → World → Prop} {a : Act} {w : World} (h : c.wpIn Fence.wide n P (Exit.noGoto Q) a w) : (Code.scope c).wpIn Fence.wide n P Q a w :=
 wpIn_wide.2 (wp_scope_straight (wpIn_wide.1 h))
theorem keepsO_below {W W' : World} (h : Below W.heap.size W W') : KeepsOthers W W' := ⟨h.size, fun k o hk _ => (h.block k (Array.getElem?_eq_some_iff.1 hk).1).trans hk⟩
/-- The sum, from (n, d) on. -/
def bondL (k : Nat) (book : List S71) : List S47 → Int → Int → Option (Int × Int × Int)
 | [], n, d => some (n, d, 0)
 | x :: l, n, d => (price_Premium.f k book x.f0 x.f1 x.f2).bind fun p => (rat_Add.f k n d p.1 p.2.1).bind fun s => if s.2.2 = 0 then bondL k book l s.1 s.2.1 else some s
/-- Whatever m risks of L come, in whatever order: the sum comes to something. -/
def bondT (k : Nat) (book : List S71) (L : List S47) : Nat → Int → Int → Bool
 | 0, _, _ => true
 | m + 1, n, d => L.all fun x => match price_Premium.f k book x.f0 x.f1 x.f2 with
  | none => false
  | some p => match rat_Add.f k n d p.1 p.2.1 with
   | none => false
   | some s => if s.2.2 = 0 then bondT k book L m s.1 s.2.1 else true
def price_Bond.f (k : Nat) (l0 : List S71) (l1 : List S47) (a2 : Int) (a3 : Int) : Option (Int × Int × Int) :=
 if a2 < 0 ∨ 8 ≤ a2 ∨ a3 < 0 ∨ 1000000000 < a3 ∨ 100 < l1.length then some (0, 0, 1)
 else (api_Risk_96.f k l1).bind fun b => if b = true then some (0, 0, 1)
  else if bondT k l0 (ofF l1 a2) (ofF l1 a2).length a3 1 = true then bondL k l0 (ofF l1 a2) a3 1 else none
theorem bondT_spec (k : Nat) (book : List S71) (L : List S47) (m : Nat) (n d : Int) : bondT k book L (m + 1) n d = true ↔ ∀ x ∈ L, ∃ p s, price_Premium.f k book x.f0 x.f1 x.f2 = some p ∧ rat_Add.f k n d p.1 p.2.1 = some s ∧ (s.2.2 = 0 → bondT k book L m s.1 s.2.1 = true) := by
 simp only [bondT, List.all_eq_true]
 constructor
 ·intro h x hx
  have := h x hx
  cases hp : price_Premium.f k book x.f0 x.f1 x.f2 with
  | none => rw [hp] at this; cases this
  | some p =>
   rw [hp] at this
   cases hs : rat_Add.f k n d p.1 p.2.1 with
   | none => simp only [hs] at this; cases this
   | some s =>
    simp only [hs] at this
    refine ⟨p, s, rfl, hs, fun h0 => ?_⟩
    rw [if_pos h0] at this
    exact this
 ·intro h x hx
  obtain ⟨p, s, hp, hs, ht⟩ := h x hx
  rw [hp]
  simp only [hs]
  split
  ·rename_i h0; exact ht h0
  ·rfl
set_option maxRecDepth 100000 in
set_option maxHeartbeats 4000000 in
theorem price_Bond.calls (k : Nat) (A0 : Option Addr) (c0 : Nat) (l0 : List (S71)) (A1 : Option Addr) (c1 : Nat) (l1 : List (S47)) (a2 : Int) (a3 : Int) (r1 : Int) (r2 : Int) (r3 : Int) (w : World) (hr0 : Kd.C k71 w A0 l0.length l0) (hc0 : l0.length ≤ c0) (hr1 : Kd.C k47 w A1 l1.length l1) (hc1 : l1.length ≤ c1) (h : price_Bond.f k l0 l1 a2 a3 = some (r1, r2, r3)) :
  Calls Try.prog 61 #[.slice A0 l0.length c0, .slice A1 l1.length c1, .int .i64 a2, .int .i64 a3] w fun e w' => e = .returned (.tuple #[.agg #[.int .i64 r1, .int .i64 r2], .int .i64 r3]) ∧ Below w.heap.size w w' := by
 have hu35 := Try.underlying35
 unfold price_Bond.f at h
 have hrw0 : ∀ o, Kd.C k71 (w.alloc o) A0 l0.length l0 := fun o => Kd.C_alloc hr0 _
 have hrw1 : ∀ o, Kd.C k47 (w.alloc o) A1 l1.length l1 := fun o => Kd.C_alloc hr1 _
 refine (callsIn_wide (n := 5)).1 ?_
 refine callsIn_of_wp_marks Try.func61 rfl trivial ?_ rfl
 simp only [Try.ntmps61, List.size_toArray, List.length_cons, List.length_nil, Nat.reduceAdd, Nat.reduceSub, Array.replicate_succ, Array.replicate_zero, List.push_toArray, List.append_toArray, List.nil_append, List.cons_append]
 split at h
 ·rename_i hbad
  simp only [Option.some.injEq, Prod.mk.injEq] at h
  obtain ⟨rfl, rfl, rfl⟩ := h
  obtain ⟨bf, hfirm, hbf⟩ : ∃ bf, price_firm.f a2 = some bf ∧ (bf = true ↔ 0 ≤ a2 ∧ a2 < 8) := by
   unfold price_firm.f
   by_cases c : 0 ≤ a2
   ·rw [if_pos c]; exact ⟨_, rfl, by simp [c]⟩
   ·rw [if_neg c]; exact ⟨_, rfl, by simp; omega⟩
  gi_wp2
  refine scope_wide ?_
  have b8 : ((w.alloc (.cells #[.slice A0 l0.length c0] 22)).alloc (.cells #[.int .i64 0, .int .i64 0] 35)).heap[w.heap.size + 1]? = some (.cells #[.int .i64 0, .int .i64 0] 35 (0, 0)) := by
   have := blk_new (w.alloc (.cells #[.slice A0 l0.length c0] 22)) (.cells #[.int .i64 0, .int .i64 0] 35)
   rwa [World.size_alloc] at this
  have hB0 : Below w.heap.size w ((w.alloc (.cells #[.slice A0 l0.length c0] 22)).alloc (.cells #[.int .i64 0, .int .i64 0] 35)) := ((Below.refl _ w).alloc (Nat.le_refl _) _).alloc (by simp) _
  generalize (w.alloc (.cells #[.slice A0 l0.length c0] 22)).alloc (.cells #[.int .i64 0, .int .i64 0] 35) = W0 at b8 hB0 ⊢
  have q3 : decide (a3 < 0) = true ∨ decide (a3 < 0) = false := by cases decide (a3 < 0) <;> simp
  have q4 : decide (1000000000 < a3) = true ∨ decide (1000000000 < a3) = false := by cases decide (1000000000 < a3) <;> simp
  have q5 : decide (100 < (l1.length : Int)) = true ∨ decide (100 < (l1.length : Int)) = false := by cases decide (100 < (l1.length : Int)) <;> simp
  have fin : ∀ (tm : Array Value) (W : World), tm.getD 8 undef = .pointer (some ⟨w.heap.size + 1, 0, none⟩) → tm.getD 9 undef = .int .i64 1 → W.heap[w.heap.size + 1]? = some (.cells #[.int .i64 0, .int .i64 0] 35 (0, 0)) → Below w.heap.size w W →
    LeavesInM Fence.wide 5 Try.prog Try.f61 tm (fun e w' => e = .returned (.tuple #[.agg #[.int .i64 0, .int .i64 0], .int .i64 1]) ∧ Below w.heap.size w w') [] .returning ((W.setCell ⟨w.heap.size + 1, 0, none⟩ (.int .i64 0)).setCell ⟨w.heap.size + 1, 1, none⟩ (.int .i64 0)) := by
   intro tm W t8 t9 k2 k6
   exact ⟨_, results_ct rfl _ _ (w.heap.size + 1) 35 #[.int .i64 0, .int .i64 0] (0, 0) _ t8 (blk_put (cs := #[.int .i64 0, .int .i64 0]) (blk_put (cs := #[.int .i64 0, .int .i64 0]) k2 0 _ rfl) 1 _ rfl) Try.underlying35 rfl (by kernel_rfl), by rw [t9], (k6.setCell (p := ⟨w.heap.size + 1, 0, none⟩) (by simp) _).setCell (p := ⟨w.heap.size + 1, 1, none⟩) (by simp) _⟩
  cases bf with
  | false =>
   clear hbf hbad q3 q4 q5
   gi_wp2_with (refine ⟨trivial, ?_⟩; gi_at_call 95; refine (callsIn_wide.2 (price_firm.calls a2 false _ hfirm)).mono ?_; rintro e w1 ⟨rfl, hd1⟩; replace b8 := blk_below b8 hd1.below; replace hB0 := below_step hB0 hd1.below; have hc80 : w1.cell? ⟨w.heap.size + 1, 0, none⟩ = some (.int .i64 0) := (blk_cell b8 0).trans rfl; have hc81 : w1.cell? ⟨w.heap.size + 1, 1, none⟩ = some (.int .i64 0) := (blk_cell b8 1).trans rfl; have hf80 := blk_frozen b8 0; have hf81 := blk_frozen b8 1)
   refine ⟨trivial, ?_⟩
   gi_wp2
   exact fin _ _ rfl rfl b8 hB0
  | true =>
   have hcase : decide (a3 < 0) = false → decide (1000000000 < a3) = false → decide (100 < (l1.length : Int)) = false → False := by
    intro q3 q4 q5
    have hf := hbf.1 rfl
    simp only [decide_eq_false_iff_not] at q3 q4 q5
    omega
   clear hbf hbad
   rcases q3 with q3 | q3
   ·clear hcase q4 q5
    gi_wp2_with (refine ⟨trivial, ?_⟩; gi_at_call 95; refine (callsIn_wide.2 (price_firm.calls a2 true _ hfirm)).mono ?_; rintro e w1 ⟨rfl, hd1⟩; replace b8 := blk_below b8 hd1.below; replace hB0 := below_step hB0 hd1.below; have hc80 : w1.cell? ⟨w.heap.size + 1, 0, none⟩ = some (.int .i64 0) := (blk_cell b8 0).trans rfl; have hc81 : w1.cell? ⟨w.heap.size + 1, 1, none⟩ = some (.int .i64 0) := (blk_cell b8 1).trans rfl; have hf80 := blk_frozen b8 0; have hf81 := blk_frozen b8 1)
    refine ⟨trivial, ?_⟩
    gi_wp2
    exact fin _ _ rfl rfl b8 hB0
   rcases q4 with q4 | q4
   ·clear hcase q5
    gi_wp2_with (refine ⟨trivial, ?_⟩; gi_at_call 95; refine (callsIn_wide.2 (price_firm.calls a2 true _ hfirm)).mono ?_; rintro e w1 ⟨rfl, hd1⟩; replace b8 := blk_below b8 hd1.below; replace hB0 := below_step hB0 hd1.below; have hc80 : w1.cell? ⟨w.heap.size + 1, 0, none⟩ = some (.int .i64 0) := (blk_cell b8 0).trans rfl; have hc81 : w1.cell? ⟨w.heap.size + 1, 1, none⟩ = some (.int .i64 0) := (blk_cell b8 1).trans rfl; have hf80 := blk_frozen b8 0; have hf81 := blk_frozen b8 1)
    refine ⟨trivial, ?_⟩
    gi_wp2
    exact fin _ _ rfl rfl b8 hB0
   rcases q5 with q5 | q5
   ·clear hcase
    gi_wp2_with (refine ⟨trivial, ?_⟩; gi_at_call 95; refine (callsIn_wide.2 (price_firm.calls a2 true _ hfirm)).mono ?_; rintro e w1 ⟨rfl, hd1⟩; replace b8 := blk_below b8 hd1.below; replace hB0 := below_step hB0 hd1.below; have hc80 : w1.cell? ⟨w.heap.size + 1, 0, none⟩ = some (.int .i64 0) := (blk_cell b8 0).trans rfl; have hc81 : w1.cell? ⟨w.heap.size + 1, 1, none⟩ = some (.int .i64 0) := (blk_cell b8 1).trans rfl; have hf80 := blk_frozen b8 0; have hf81 := blk_frozen b8 1)
    refine ⟨trivial, ?_⟩
    gi_wp2
    exact fin _ _ rfl rfl b8 hB0
   ·exact (hcase q3 q4 q5).elim
 ·rename_i hg
  have g1 : ¬ a2 < 0 := by omega
  have g2 : a2 < 8 := by omega
  have g3 : ¬ a3 < 0 := by omega
  have g4 : ¬ a3 > 1000000000 := by omega
  have g5 : ¬ ((l1.length : Int) > 100) := by omega
  have hfirm : price_firm.f a2 = some true := by unfold price_firm.f; rw [if_pos (by omega)]; simp; omega
  obtain ⟨b, hb, h⟩ := Option.bind_eq_some_iff.mp h
  have q3 : decide (a3 < 0) = false := decide_eq_false g3
  have q4 : decide (1000000000 < a3) = false := decide_eq_false (by omega)
  have q5 : decide (100 < (l1.length : Int)) = false := decide_eq_false (by omega)
  gi_wp2
  refine scope_wide ?_
  have b4 : ((w.alloc (.cells #[.slice A0 l0.length c0] 22)).alloc (.cells #[.int .i64 0, .int .i64 0] 35)).heap[w.heap.size]? = some (.cells #[.slice A0 l0.length c0] 22 (0, 0)) := blk_alloc (blk_new _ _) _
  have b8 : ((w.alloc (.cells #[.slice A0 l0.length c0] 22)).alloc (.cells #[.int .i64 0, .int .i64 0] 35)).heap[w.heap.size + 1]? = some (.cells #[.int .i64 0, .int .i64 0] 35 (0, 0)) := by
   have := blk_new (w.alloc (.cells #[.slice A0 l0.length c0] 22)) (.cells #[.int .i64 0, .int .i64 0] 35)
   rwa [World.size_alloc] at this
  have hB0 : Below w.heap.size w ((w.alloc (.cells #[.slice A0 l0.length c0] 22)).alloc (.cells #[.int .i64 0, .int .i64 0] 35)) := ((Below.refl _ w).alloc (Nat.le_refl _) _).alloc (by simp) _
  generalize (w.alloc (.cells #[.slice A0 l0.length c0] 22)).alloc (.cells #[.int .i64 0, .int .i64 0] 35) = W0 at b4 b8 hB0 ⊢
  gi_wp2_with (first | (refine ⟨trivial, ?_⟩; gi_at_call 95; refine (callsIn_wide.2 (price_firm.calls a2 true _ hfirm)).mono ?_; rintro e w1 ⟨rfl, hd1⟩; replace b4 := blk_below b4 hd1.below; replace b8 := blk_below b8 hd1.below; replace hB0 := below_step hB0 hd1.below) | (refine ⟨trivial, ?_⟩; gi_at_call 96; refine (callsIn_wide.2 (api_Risk_96.calls k A1 c1 l1 b _ (Kd.C_below hr1 hB0) hc1 hb)).mono ?_; rintro e w2 ⟨rfl, hd2⟩; replace b4 := blk_below b4 hd2; replace b8 := blk_below b8 hd2; replace hB0 := below_step hB0 hd2; have hc80 : w2.cell? ⟨w.heap.size + 1, 0, none⟩ = some (.int .i64 0) := (blk_cell b8 0).trans rfl; have hc81 : w2.cell? ⟨w.heap.size + 1, 1, none⟩ = some (.int .i64 0) := (blk_cell b8 1).trans rfl; have hf80 := blk_frozen b8 0; have hf81 := blk_frozen b8 1; cases b) | (refine ⟨trivial, ?_⟩; gi_at_call 90; refine (callsIn_wide.2 (price_whole.calls a3 a3 1 _ rfl)).mono ?_; rintro e w3 ⟨rfl, hd3⟩; replace b4 := blk_below b4 hd3; replace b8 := blk_below b8 hd3; replace hB0 := below_step hB0 hd3) | (refine ⟨trivial, ?_⟩; gi_at_call 97; refine (of_in Fence.wide 4 trivial rfl A1 l1.length c1 a2 _).mono ?_; rintro e w4 ⟨rfl, rfl⟩))
  ·refine wpIn_label ?_
   have hs3 := blk_lt b8
   have b10 : ((w3.alloc (.cells #[.int .i64 a3, .int .i64 1] 35)).alloc (.cells #[.int .i64 0] 28)).heap[w3.heap.size]? = some (.cells #[.int .i64 a3, .int .i64 1] 35 (0, 0)) := blk_alloc (blk_new _ _) _
   have b11 : ((w3.alloc (.cells #[.int .i64 a3, .int .i64 1] 35)).alloc (.cells #[.int .i64 0] 28)).heap[w3.heap.size + 1]? = some (.cells #[.int .i64 0] 28 (0, 0)) := by
    have := blk_new (w3.alloc (.cells #[.int .i64 a3, .int .i64 1] 35)) (.cells #[.int .i64 0] 28)
    rwa [World.size_alloc] at this
   replace b4 := blk_alloc (blk_alloc b4 (.cells #[.int .i64 a3, .int .i64 1] 35)) (.cells #[.int .i64 0] 28)
   replace b8 := blk_alloc (blk_alloc b8 (.cells #[.int .i64 a3, .int .i64 1] 35)) (.cells #[.int .i64 0] 28)
   replace hB0 := (hB0.alloc hB0.size (.cells #[.int .i64 a3, .int .i64 1] 35)).alloc (by simp; omega) (.cells #[.int .i64 0] 28)
   have hs5 : ((w3.alloc (.cells #[.int .i64 a3, .int .i64 1] 35)).alloc (.cells #[.int .i64 0] 28)).heap.size = w3.heap.size + 2 := by simp
   generalize (w3.alloc (.cells #[.int .i64 a3, .int .i64 1] 35)).alloc (.cells #[.int .i64 0] 28) = W5 at b4 b8 b10 b11 hB0 hs5 ⊢
   clear hd1 hd2 hd3 hc80 hc81 hf80 hf81
   generalize w3.heap.size = g at b10 b11 hs3 hs5 ⊢
   gi_wp2_with ((refine ⟨trivial, ?_⟩; gi_at_call 97; refine (of_in Fence.wide 4 trivial rfl A1 l1.length c1 a2 _).mono ?_; rintro e w4 ⟨rfl, rfl⟩))
   have bs : ((W5.alloc (.cells #[.slice A1 l1.length c1] 50)).alloc (.cells #[.int .i64 a2] 3)).heap[g + 2]? = some (.cells #[.slice A1 l1.length c1] 50 (0, 0)) := by
    have := blk_alloc (blk_new W5 (.cells #[.slice A1 l1.length c1] 50)) (.cells #[.int .i64 a2] 3)
    rwa [hs5] at this
   have bf : ((W5.alloc (.cells #[.slice A1 l1.length c1] 50)).alloc (.cells #[.int .i64 a2] 3)).heap[g + 2 + 1]? = some (.cells #[.int .i64 a2] 3 (0, 0)) := by
    have := blk_new (W5.alloc (.cells #[.slice A1 l1.length c1] 50)) (.cells #[.int .i64 a2] 3)
    rwa [World.size_alloc, hs5] at this
   have hs6 : ((W5.alloc (.cells #[.slice A1 l1.length c1] 50)).alloc (.cells #[.int .i64 a2] 3)).heap.size = g + 4 := by simp [hs5]
   replace b4 := blk_alloc (blk_alloc b4 (.cells #[.slice A1 l1.length c1] 50)) (.cells #[.int .i64 a2] 3)
   replace b8 := blk_alloc (blk_alloc b8 (.cells #[.slice A1 l1.length c1] 50)) (.cells #[.int .i64 a2] 3)
   replace b10 := blk_alloc (blk_alloc b10 (.cells #[.slice A1 l1.length c1] 50)) (.cells #[.int .i64 a2] 3)
   replace b11 := blk_alloc (blk_alloc b11 (.cells #[.slice A1 l1.length c1] 50)) (.cells #[.int .i64 a2] 3)
   replace hB0 := (hB0.alloc hB0.size (.cells #[.slice A1 l1.length c1] 50)).alloc (by simp; omega) (.cells #[.int .i64 a2] 3)
   generalize (W5.alloc (.cells #[.slice A1 l1.length c1] 50)).alloc (.cells #[.int .i64 a2] 3) = W6 at b4 b8 b10 b11 bs bf hB0 hs6 ⊢
   clear hs5
   simp only [Bool.false_eq_true, if_false] at h
   split at h
   case isFalse => cases h
   rename_i hT
   have hcells : ∀ k, k < l1.length → ∃ ad, A1 = some ad ∧ ad.block < w.heap.size ∧ W6.cell? (ad.add (k * 3)) = some (.int .i64 (l1.getD k z47).f0) ∧ W6.cell? ⟨(ad.add (k * 3)).block, (ad.add (k * 3)).off + 1, none⟩ = some (.int .i64 (l1.getD k z47).f1) ∧ W6.cell? ⟨(ad.add (k * 3)).block, (ad.add (k * 3)).off + 2, none⟩ = some (.int .i64 (l1.getD k z47).f2) := by
    intro k hk
    obtain ⟨ad, e, h0, h1, h2⟩ := at_T47 hr1 (k : Int) (by omega) (by omega)
    simp only [Int.toNat_natCast, rd_T47] at h0 h1 h2
    have eb : (ad.add (k * 3)).block = ad.block := by unfold Addr.add; split <;> rfl
    have hbl := World.block_lt_of_cell? w _ h0
    exact ⟨ad, e, by rw [eb] at hbl; exact hbl, pw_cell_below hB0 h0, pw_cell_below hB0 h1, pw_cell_below hB0 h2⟩
   have kept : ∀ {X Y : World} {row : Option Nat} {gg : Nat} {o : Obj}, X.heap[gg]? = some o → gg < g + 4 → X.grownBy Y row → (∀ r, row = some r → W6.heap.size ≤ r ∧ ∃ o : Obj, X.heap[r]? = some o ∧ o.isCells = false) → Y.heap[gg]? = some o :=
    fun hb hlt hg hr => blk_grown hb hg (fun e => by have := (hr _ e.symm).1; omega)
   have tail : ∀ (tm : Array Value) (D : Nat) (n d e : Int) (W : World), tm.getD 8 undef = .pointer (some ⟨w.heap.size + 1, 0, none⟩) → tm.getD 9 undef = .int .i64 e → W6.heap.size ≤ D → bondL k l0 (ofF l1 a2) a3 1 = some (n, d, e) →
     W.heap[w.heap.size + 1]? = some (.cells #[.int .i64 0, .int .i64 0] 35 (0, 0)) → Below w.heap.size w W → W.heap[D]? = some (.deferred (some [])) →
     LeavesInM Fence.wide 5 Try.prog Try.f61 tm (fun e w' => e = .returned (.tuple #[.agg #[.int .i64 r1, .int .i64 r2], .int .i64 r3]) ∧ Below w.heap.size w w') [{ target := .collected D, args := #[] }] .returning
      (((W.setCell ⟨w.heap.size + 1, 0, none⟩ (.int .i64 n)).setCell ⟨w.heap.size + 1, 1, none⟩ (.int .i64 d)).drew) := by
    intro tm D n d e W t8 t9 hD hfin k2 k6 hK
    rw [hfin] at h
    obtain ⟨rfl, rfl, rfl⟩ : n = r1 ∧ d = r2 ∧ e = r3 := by simpa using h
    have hK' : (((W.setCell ⟨w.heap.size + 1, 0, none⟩ (.int .i64 n)).setCell ⟨w.heap.size + 1, 1, none⟩ (.int .i64 d)).drew).heap[D]? = some (.deferred (some [])) :=
     (Below.heap_setCell _ _ _ _ (by simp; omega)).trans ((Below.heap_setCell _ _ _ _ (by simp; omega)).trans hK)
    have y1 := blk_put (cs' := #[.int .i64 n, .int .i64 d]) (blk_put (cs' := #[.int .i64 n, .int .i64 0]) k2 0 (.int .i64 n) rfl) 1 (.int .i64 d) rfl
    refine ⟨by simp, .inl ⟨_, _, rfl, run_takeDeferred hK', ?_⟩⟩
    refine ⟨_, results_ct rfl _ _ (w.heap.size + 1) 35 #[.int .i64 n, .int .i64 d] (0, 0) _ t8 ((World.putObj_heap_other (by omega)).trans y1) Try.underlying35 rfl (by kernel_rfl), by rw [t9], ?_⟩
    exact ((k6.setCell (p := ⟨w.heap.size + 1, 0, none⟩) (by simp) _).setCell (p := ⟨w.heap.size + 1, 1, none⟩) (by simp) _).drew.trans (belowK_b (w := w) (Nat.le_refl _) _ D _ _ (by omega) hK' rfl rfl)
   refine wpIn_rangeFunc_ownH rfl (by omega) (gf := 116) (lb := #[.pointer (some ⟨g + 2, 0, none⟩), .pointer (some ⟨g + 2 + 1, 0, none⟩)]) rfl trivial (enters_of Try.func116 (by kernel_rfl) rfl)
    (of_stops Fence.wide (5 - 1) trivial rfl (by omega) (g + 2) (g + 2 + 1) w.heap.size A1 c1 l1 a2 (by omega) W6 (by omega) (by omega) ((blk_cell bs 0).trans rfl) bf hcells)
    (fun h k => h.trans k) (fun W l o o' hl ho hc hw => ⟨belowK_b hB0.size W l o o' hl ho hc hw, fun _ => World.putObj_heap_other (by omega)⟩) (Below.refl _ _) (fun _ => rfl)
    (fun pre W => (∃ n d, (W.heap[w.heap.size]? = some (.cells #[.slice A0 l0.length c0] 22 (0, 0)) ∧ W.heap[w.heap.size + 1]? = some (.cells #[.int .i64 0, .int .i64 0] 35 (0, 0)) ∧ W.heap[g]? = some (.cells #[.int .i64 n, .int .i64 d] 35 (0, 0)) ∧ W.heap[g + 1]? = some (.cells #[.int .i64 0] 28 (0, 0))) ∧ bondT k l0 (ofF l1 a2) ((ofF l1 a2).length - pre.length) n d = true ∧ ∀ rest, bondL k l0 (pre.map (·.1) ++ rest) a3 1 = bondL k l0 rest n d) ∧ Below w.heap.size w W ∧ g + 4 ≤ W.heap.size)
    (fun c pre W => c = .exit 0 ∧ (∃ n d e, (W.heap[w.heap.size + 1]? = some (.cells #[.int .i64 0, .int .i64 0] 35 (0, 0)) ∧ W.heap[g]? = some (.cells #[.int .i64 n, .int .i64 d] 35 (0, 0)) ∧ W.heap[g + 1]? = some (.cells #[.int .i64 e] 28 (0, 0))) ∧ ∀ rest, bondL k l0 (pre.map (·.1) ++ rest) a3 1 = some (n, d, e)) ∧ Below w.heap.size w W ∧ g + 4 ≤ W.heap.size)
    (fun s X Y row hs hg hr => by
     obtain ⟨⟨n, d, ⟨k1, k2, k3, k4⟩, k5⟩, k6, k7⟩ := hs
     exact ⟨⟨n, d, ⟨kept k1 (by omega) hg hr, kept k2 (by omega) hg hr, kept k3 (by omega) hg hr, kept k4 (by omega) hg hr⟩, k5⟩, ownFrom_below (β := Unit) (Nat.le_refl _) hB0.size () X Y row k6 hg hr, Nat.le_trans k7 hg.size⟩)
    (fun c s X Y row hs hg hr => by
     obtain ⟨k0, ⟨n, d, e, ⟨k2, k3, k4⟩, k5⟩, k6, k7⟩ := hs
     exact ⟨k0, ⟨n, d, e, ⟨kept k2 (by omega) hg hr, kept k3 (by omega) hg hr, kept k4 (by omega) hg hr⟩, k5⟩, ownFrom_below (β := Unit) (Nat.le_refl _) hB0.size () X Y row k6 hg hr, Nat.le_trans k7 hg.size⟩)
    ⟨⟨a3, 1, ⟨b4, b8, b10, b11⟩, hT, fun _ => rfl⟩, hB0, by omega⟩
    (fun x a' W => ∃ Bx, g + 4 ≤ Bx ∧ W.heap[Bx]? = some (.cells #[.int .i64 x.1.f0, .int .i64 x.1.f1, .int .i64 x.1.f2] 47 (0, 0)) ∧ a' = { tmps := #[.slice A0 l0.length c0, .slice A1 l1.length c1, .int .i64 a2, .int .i64 a3, .pointer (some ⟨w.heap.size, 0, none⟩), undef, undef, undef, .pointer (some ⟨w.heap.size + 1, 0, none⟩), .int .i64 0, .pointer (some ⟨g, 0, none⟩), .pointer (some ⟨g + 1, 0, none⟩), .pointer (some ⟨Bx, 0, none⟩), undef, undef, .int .i64 a2, .bool true, .bool false, .bool false, .int .i64 a3, .bool false, .bool false, .bool false, .int .i64 a3, .bool false, .bool false, .bool false, .slice A1 l1.length c1, .int .i64 (l1.length : Int), .bool false, .bool false, .bool false, .slice A1 l1.length c1, .bool false, .bool false, undef, .int .i64 a3, .agg #[.int .i64 a3, .int .i64 1], .slice A1 l1.length c1, .int .i64 a2, .func (.func 116) #[] #[.pointer (some ⟨g + 2, 0, none⟩), .pointer (some ⟨g + 2 + 1, 0, none⟩)], risk x.1, undef, undef, undef, undef, undef, undef, undef, undef, undef, undef, undef, undef, undef, undef, undef, undef], defers := [] })
    (fun x a' s X Y row hs hg hr => by
     obtain ⟨Bx, h1, h2, h3⟩ := hs
     exact ⟨Bx, h1, blk_grown h2 hg (fun e => by obtain ⟨o, ho, hc⟩ := (hr _ e.symm).2; rw [h2] at ho; cases ho; cases hc), h3⟩) ?assign ?body ?done ?stop
   case assign =>
    rintro l pre x W K ⟨⟨n, d, ⟨k1, k2, k3, k4⟩, k5⟩, k6, k7⟩ hK
    have hu47 := Try.underlying47
    dsimp only [risk]
    gi_wp2
    exact hK _ _ ((KeepsOthers.alloc _ _).from _) ((KpO.refl _ _ _).alloc (by omega) _) ⟨⟨n, d, ⟨blk_alloc k1 _, blk_alloc k2 _, blk_alloc k3 _, blk_alloc k4 _⟩, k5⟩, k6.alloc k6.size _, by simp; omega⟩ ⟨W.heap.size, k7, blk_new _ _, rfl⟩
   case body =>
    rintro l pre x a' W hl ⟨r, hr⟩ ⟨⟨n, d, ⟨k1, k2, k3, k4⟩, k5, k8⟩, k6, k7⟩ ⟨Bx, hBx, bx, rfl⟩ hlt
    obtain ⟨m, hm⟩ : ∃ m, (ofF l1 a2).length - pre.length = m + 1 := ⟨(ofF l1 a2).length - pre.length - 1, by omega⟩
    rw [hm] at k5
    obtain ⟨⟨p1, p2, p3⟩, ⟨s1, s2, s3⟩, hp, hs, hnext⟩ := (bondT_spec _ _ _ _ _ _).1 k5 x.1 x.2
    simp only at hs hnext
    have hx47 := Try.underlying47
    have hc4 : W.cell? ⟨w.heap.size, 0, none⟩ = some (.slice A0 l0.length c0) := (blk_cell k1 0).trans rfl
    have hx0 : W.cell? ⟨Bx, 0, none⟩ = some (.int .i64 x.1.f0) := (blk_cell bx 0).trans rfl
    have hx1 : W.cell? ⟨Bx, 1, none⟩ = some (.int .i64 x.1.f1) := (blk_cell bx 1).trans rfl
    have hx2 : W.cell? ⟨Bx, 2, none⟩ = some (.int .i64 x.1.f2) := (blk_cell bx 2).trans rfl
    have hfold : ∀ rest, bondL k l0 ((pre ++ [x]).map (·.1) ++ rest) a3 1 = if s3 = 0 then bondL k l0 rest s1 s2 else some (s1, s2, s3) := by
     intro rest
     have e : (pre ++ [x]).map (·.1) ++ rest = pre.map (·.1) ++ (x.1 :: rest) := by
      rw [List.map_append, List.append_assoc]; rfl
     rw [e, k8]
     simp only [bondL, hp, Option.bind_some, hs]
    dsimp only [risk]
    have hbq : (s3 != 0) = !decide (s3 = 0) := by rw [Bool.eq_iff_iff]; simp
    by_cases hs0 : s3 = 0
    ·subst hs0
     gi_wp2_with (first | (refine ⟨trivial, ?_⟩; gi_at_call 58; refine (CallsIn.inRound l (callsIn_wide.2 (price_Premium.calls k A0 c0 l0 _ _ _ p1 p2 p3 W (Kd.C_below hr0 k6) hc0 hp))).mono ?_; rintro e w1 ⟨rfl, hd1⟩; have q2 := blk_below k2 hd1; have q1 := blk_below k1 hd1; have q3 := blk_below k3 hd1; have q4 := blk_below k4 hd1; have hg0 : ∀ o, (w1.alloc o).cell? ⟨g, 0, none⟩ = some (.int .i64 n) := fun o => (blk_cell (blk_alloc q3 o) 0).trans rfl; have hg1 : ∀ o, (w1.alloc o).cell? ⟨g, 1, none⟩ = some (.int .i64 d) := fun o => (blk_cell (blk_alloc q3 o) 1).trans rfl) | (refine ⟨trivial, ?_⟩; gi_at_call 50; refine (CallsIn.inRound l (callsIn_wide.2 (rat_Add.calls k n d p1 p2 s1 s2 0 _ hs))).mono ?_; rintro e w2 ⟨rfl, hd2⟩; have y1 := blk_below (blk_alloc q1 _) hd2; have y2 := blk_below (blk_alloc q2 _) hd2; have y3 := blk_below (blk_alloc q3 _) hd2; have y4 := blk_below (blk_alloc q4 _) hd2; have hz0 : w2.cell? ⟨g, 0, none⟩ = some (.int .i64 n) := (blk_cell y3 0).trans rfl; have hz1 : w2.cell? ⟨g, 1, none⟩ = some (.int .i64 d) := (blk_cell y3 1).trans rfl; have hz2 : w2.cell? ⟨g + 1, 0, none⟩ = some (.int .i64 0) := (blk_cell y4 0).trans rfl; have hy0 := blk_frozen y3 0; have hy1 := blk_frozen y3 1; have hy2 := blk_frozen y4 0))
     have KO := ((((keepsO_below hd1).trans (KeepsOthers.alloc _ (.cells #[.int .i64 p1, .int .i64 p2] 35))).trans (keepsO_below hd2)).trans (KeepsOthers.setCell _ ⟨g, 0, none⟩ (.int .i64 s1))).trans ((KeepsOthers.setCell _ ⟨g, 1, none⟩ (.int .i64 s2)).trans (KeepsOthers.setCell _ ⟨g + 1, 0, none⟩ (.int .i64 0)))
     have hws : w.heap.size ≤ W.heap.size := k6.size
     have hw1 := hd1.size
     have hw2 := hd2.size
     simp only [World.size_alloc] at hw2
     have low : Below w.heap.size W (((w2.setCell ⟨g, 0, none⟩ (.int .i64 s1)).setCell ⟨g, 1, none⟩ (.int .i64 s2)).setCell ⟨g + 1, 0, none⟩ (.int .i64 0)) :=
      (((((hd1.mono hws).alloc (by omega) _).trans (hd2.mono (by simp; omega))).setCell (p := ⟨g, 0, none⟩) (by simp; omega) _).setCell (p := ⟨g, 1, none⟩) (by simp; omega) _).setCell (p := ⟨g + 1, 0, none⟩) (by simp; omega) _
     have KP : KpO w.heap.size (g + 2 + 1) W (((w2.setCell ⟨g, 0, none⟩ (.int .i64 s1)).setCell ⟨g, 1, none⟩ (.int .i64 s2)).setCell ⟨g + 1, 0, none⟩ (.int .i64 0)) :=
      ⟨low, fun hlt => (Below.heap_setCell _ _ _ _ (by simp <;> omega)).trans ((Below.heap_setCell _ _ _ _ (by simp <;> omega)).trans ((Below.heap_setCell _ _ _ _ (by simp <;> omega)).trans ((hd2.block _ (by simp; omega)).trans ((Below.heap_alloc _ _ _ (by omega)).trans (hd1.block _ hlt)))))⟩
     have f1 := blk_far (blk_far (blk_far y1 (p := ⟨g, 0, none⟩) (by simp; omega) (.int .i64 s1)) (p := ⟨g, 1, none⟩) (by simp; omega) (.int .i64 s2)) (p := ⟨g + 1, 0, none⟩) (by simp; omega) (.int .i64 0)
     have f2 := blk_far (blk_far (blk_far y2 (p := ⟨g, 0, none⟩) (by simp; omega) (.int .i64 s1)) (p := ⟨g, 1, none⟩) (by simp; omega) (.int .i64 s2)) (p := ⟨g + 1, 0, none⟩) (by simp; omega) (.int .i64 0)
     have f3 := blk_far (blk_put (cs' := #[.int .i64 s1, .int .i64 s2]) (blk_put (cs' := #[.int .i64 s1, .int .i64 d]) y3 0 (.int .i64 s1) rfl) 1 (.int .i64 s2) rfl) (p := ⟨g + 1, 0, none⟩) (by simp) (.int .i64 0)
     have f4 := blk_put (cs' := #[.int .i64 0]) (blk_far (blk_far y4 (p := ⟨g, 0, none⟩) (by simp) (.int .i64 s1)) (p := ⟨g, 1, none⟩) (by simp) (.int .i64 s2)) 0 (.int .i64 0) rfl
     have hsz := low.size
     exact ⟨KO.from _, KP, ⟨s1, s2, ⟨f1, f2, f3, f4⟩, by rw [List.length_append, List.length_singleton, show (ofF l1 a2).length - (pre.length + 1) = m by omega]; exact hnext (by first | trivial | rfl), fun rest => (hfold rest).trans (by simp)⟩, k6.trans low, by omega⟩
    ·gi_wp2_with (first | (refine ⟨trivial, ?_⟩; gi_at_call 58; refine (CallsIn.inRound l (callsIn_wide.2 (price_Premium.calls k A0 c0 l0 _ _ _ p1 p2 p3 W (Kd.C_below hr0 k6) hc0 hp))).mono ?_; rintro e w1 ⟨rfl, hd1⟩; have q2 := blk_below k2 hd1; have q1 := blk_below k1 hd1; have q3 := blk_below k3 hd1; have q4 := blk_below k4 hd1; have hg0 : ∀ o, (w1.alloc o).cell? ⟨g, 0, none⟩ = some (.int .i64 n) := fun o => (blk_cell (blk_alloc q3 o) 0).trans rfl; have hg1 : ∀ o, (w1.alloc o).cell? ⟨g, 1, none⟩ = some (.int .i64 d) := fun o => (blk_cell (blk_alloc q3 o) 1).trans rfl) | (refine ⟨trivial, ?_⟩; gi_at_call 50; refine (CallsIn.inRound l (callsIn_wide.2 (rat_Add.calls k n d p1 p2 s1 s2 s3 _ hs))).mono ?_; rintro e w2 ⟨rfl, hd2⟩; have y1 := blk_below (blk_alloc q1 _) hd2; have y2 := blk_below (blk_alloc q2 _) hd2; have y3 := blk_below (blk_alloc q3 _) hd2; have y4 := blk_below (blk_alloc q4 _) hd2; have hz0 : w2.cell? ⟨g, 0, none⟩ = some (.int .i64 n) := (blk_cell y3 0).trans rfl; have hz1 : w2.cell? ⟨g, 1, none⟩ = some (.int .i64 d) := (blk_cell y3 1).trans rfl; have hz2 : w2.cell? ⟨g + 1, 0, none⟩ = some (.int .i64 0) := (blk_cell y4 0).trans rfl; have hy0 := blk_frozen y3 0; have hy1 := blk_frozen y3 1; have hy2 := blk_frozen y4 0))
     have KO := ((((keepsO_below hd1).trans (KeepsOthers.alloc _ (.cells #[.int .i64 p1, .int .i64 p2] 35))).trans (keepsO_below hd2)).trans (KeepsOthers.setCell _ ⟨g, 0, none⟩ (.int .i64 s1))).trans ((KeepsOthers.setCell _ ⟨g, 1, none⟩ (.int .i64 s2)).trans (KeepsOthers.setCell _ ⟨g + 1, 0, none⟩ (.int .i64 s3)))
     have hws : w.heap.size ≤ W.heap.size := k6.size
     have hw1 := hd1.size
     have hw2 := hd2.size
     simp only [World.size_alloc] at hw2
     have low : Below w.heap.size W (((w2.setCell ⟨g, 0, none⟩ (.int .i64 s1)).setCell ⟨g, 1, none⟩ (.int .i64 s2)).setCell ⟨g + 1, 0, none⟩ (.int .i64 s3)) :=
      (((((hd1.mono hws).alloc (by omega) _).trans (hd2.mono (by simp; omega))).setCell (p := ⟨g, 0, none⟩) (by simp; omega) _).setCell (p := ⟨g, 1, none⟩) (by simp; omega) _).setCell (p := ⟨g + 1, 0, none⟩) (by simp; omega) _
     have KP : KpO w.heap.size (g + 2 + 1) W (((w2.setCell ⟨g, 0, none⟩ (.int .i64 s1)).setCell ⟨g, 1, none⟩ (.int .i64 s2)).setCell ⟨g + 1, 0, none⟩ (.int .i64 s3)) :=
      ⟨low, fun hlt => (Below.heap_setCell _ _ _ _ (by simp <;> omega)).trans ((Below.heap_setCell _ _ _ _ (by simp <;> omega)).trans ((Below.heap_setCell _ _ _ _ (by simp <;> omega)).trans ((hd2.block _ (by simp; omega)).trans ((Below.heap_alloc _ _ _ (by omega)).trans (hd1.block _ hlt)))))⟩
     have f1 := blk_far (blk_far (blk_far y1 (p := ⟨g, 0, none⟩) (by simp; omega) (.int .i64 s1)) (p := ⟨g, 1, none⟩) (by simp; omega) (.int .i64 s2)) (p := ⟨g + 1, 0, none⟩) (by simp; omega) (.int .i64 s3)
     have f2 := blk_far (blk_far (blk_far y2 (p := ⟨g, 0, none⟩) (by simp; omega) (.int .i64 s1)) (p := ⟨g, 1, none⟩) (by simp; omega) (.int .i64 s2)) (p := ⟨g + 1, 0, none⟩) (by simp; omega) (.int .i64 s3)
     have f3 := blk_far (blk_put (cs' := #[.int .i64 s1, .int .i64 s2]) (blk_put (cs' := #[.int .i64 s1, .int .i64 d]) y3 0 (.int .i64 s1) rfl) 1 (.int .i64 s2) rfl) (p := ⟨g + 1, 0, none⟩) (by simp) (.int .i64 s3)
     have f4 := blk_put (cs' := #[.int .i64 s3]) (blk_far (blk_far y4 (p := ⟨g, 0, none⟩) (by simp) (.int .i64 s1)) (p := ⟨g, 1, none⟩) (by simp) (.int .i64 s2)) 0 (.int .i64 s3) rfl
     have hsz := low.size
     exact ⟨KO.from _, rfl, ⟨s1, s2, s3, ⟨f2, f3, f4⟩, fun rest => by rw [hfold, if_neg hs0]⟩, k6.trans low, by omega⟩
   case done =>
    rintro D ys W hD hys ⟨⟨n, d, ⟨k1, k2, k3, k4⟩, k5, k8⟩, k6, k7⟩ hK
    have hfin : bondL k l0 (ofF l1 a2) a3 1 = some (n, d, 0) := by
     have := k8 []
     rw [List.append_nil, hys] at this
     exact this
    have hc8 : W.cell? ⟨w.heap.size + 1, 0, none⟩ = some (.int .i64 0) := (blk_cell k2 0).trans rfl
    have hc9 : W.cell? ⟨w.heap.size + 1, 1, none⟩ = some (.int .i64 0) := (blk_cell k2 1).trans rfl
    have hg0 : W.cell? ⟨g, 0, none⟩ = some (.int .i64 n) := (blk_cell k3 0).trans rfl
    have hg1 : W.cell? ⟨g, 1, none⟩ = some (.int .i64 d) := (blk_cell k3 1).trans rfl
    have hg2 : W.cell? ⟨g + 1, 0, none⟩ = some (.int .i64 0) := (blk_cell k4 0).trans rfl
    have hf8 := blk_frozen k2 0
    have hf9 := blk_frozen k2 1
    have hmx : Try.prog.follows .mixedOrders = true := by kernel_rfl
    gi_wp2
    gi_region
    all_goals gi_wp2
    all_goals exact tail _ D n d 0 W rfl rfl hD hfin k2 k6 hK
   case stop =>
    rintro D c pre W hD ⟨rest, hrest⟩ ⟨rfl, ⟨n, d, e, ⟨k2, k3, k4⟩, k8⟩, k6, k7⟩ hK
    have hfin : bondL k l0 (ofF l1 a2) a3 1 = some (n, d, e) := by
     have := k8 rest
     rw [hrest] at this
     exact this
    have hc8 : W.cell? ⟨w.heap.size + 1, 0, none⟩ = some (.int .i64 0) := (blk_cell k2 0).trans rfl
    have hc9 : W.cell? ⟨w.heap.size + 1, 1, none⟩ = some (.int .i64 0) := (blk_cell k2 1).trans rfl
    have hg0 : W.cell? ⟨g, 0, none⟩ = some (.int .i64 n) := (blk_cell k3 0).trans rfl
    have hg1 : W.cell? ⟨g, 1, none⟩ = some (.int .i64 d) := (blk_cell k3 1).trans rfl
    have hg2 : W.cell? ⟨g + 1, 0, none⟩ = some (.int .i64 e) := (blk_cell k4 0).trans rfl
    have hf8 := blk_frozen k2 0
    have hf9 := blk_frozen k2 1
    have hmx : Try.prog.follows .mixedOrders = true := by kernel_rfl
    gi_wp2
    gi_region
    all_goals gi_wp2
    all_goals exact tail _ D n d e W rfl rfl hD hfin k2 k6 hK
  ·simp only [if_true, Option.some.injEq, Prod.mk.injEq] at h
   obtain ⟨rfl, rfl, rfl⟩ := h
   exact ⟨_, results_ct rfl _ _ (w.heap.size + 1) 35 #[.int .i64 0, .int .i64 0] (0, 0) _ rfl (by refine blk_put (cs := #[.int .i64 0, .int .i64 0]) ?_ 1 _ rfl; refine blk_put (cs := #[.int .i64 0, .int .i64 0]) ?_ 0 _ rfl; exact b8) Try.underlying35 rfl (by kernel_rfl), rfl, (hB0.setCell (p := ⟨w.heap.size + 1, 0, none⟩) (by simp) _).setCell (p := ⟨w.heap.size + 1, 1, none⟩) (by simp) _⟩
end Go.Proofs.Ytohnkcmbogcfhaa.P
namespace Go.Proofs.Ytohnkcmbogcfhaa.P
open Go.Proofs.YtohnkcmbogcfhaaH Go.RowKit Go.Proofs.YtohnkcmbogcfhaaW.PrintWords Go.Proofs.YtohnkcmbogcfhaaW.PrintLast Go.Proofs.YtohnkcmbogcfhaaW.PrintMore
attribute [local go_sem] max2_int min2_int max_two min_two max_three min_three max_four min_four   -- for this text's walks alone
attribute [local go_sem] Go.Proofs.YtohnkcmbogcfhaaH.cell_set_map
def parolelaw42_bond.f (k : Nat) (l0 : List (S71)) (l1 : List (S47)) (a2 : Int) (a3 : Int) : Option (Int × Int × Int) := (price_Bond.f k l0 l1 a2 a3).bind fun bt102 => (some (bt102.1, bt102.2.1, bt102.2.2))
set_option maxHeartbeats 40000000 in
set_option maxRecDepth 100000 in
theorem parolelaw42_bond.calls (k : Nat) (A0 : Option Addr) (c0 : Nat) (l0 : List (S71)) (A1 : Option Addr) (c1 : Nat) (l1 : List (S47)) (a2 : Int) (a3 : Int) (r1 : Int) (r2 : Int) (r3 : Int) (w : World) (hr0 : Kd.C k71 w A0 l0.length l0) (hc0 : l0.length ≤ c0) (hr1 : Kd.C k47 w A1 l1.length l1) (hc1 : l1.length ≤ c1) (h : parolelaw42_bond.f k l0 l1 a2 a3 = some (r1, r2, r3)) :
  Calls Try.prog 33 #[.slice A0 l0.length c0, .slice A1 l1.length c1, .int .i64 a2, .int .i64 a3] w fun e w' => e = .returned (.agg #[.int .i64 r1, .int .i64 r2, .int .i64 r3]) ∧ Below w.heap.size w w' := by
 have hu38 := Try.underlying38; have hu35 := Try.underlying35; have HR0 := aM hr0; have HC0 := aM hc0; clear hr0 hc0; have HR1 := aM hr1; have HC1 := aM hc1; clear hr1 hc1; have HB := aM (Below.refl w.heap.size w)
 have H : ((price_Bond.f k l0 l1 a2 a3).bind fun bt102 => (some (bt102.1, bt102.2.1, bt102.2.2))) = some (r1, r2, r3) := h
 clear h; replace H := Option.bind_eq_some_iff.mp H
 obtain ⟨⟨t102, t103, t104⟩, A50, H⟩ := H
 replace H : (some (t102, t103, t104)) = some (r1, r2, r3) := H
 have A5 := aM A50; clear A50
 simp only [Option.some.injEq, Prod.mk.injEq] at H
 obtain ⟨rfl, rfl, rfl⟩ := H
 go_enter Try.func33, Try.ntmps33
 go_wp2_with (first | ((with_reducible refine gate_dst (N := 8) rfl ?_); refine bE (N := 8) (cs := #[.int .i64 0, .int .i64 0, .int .i64 0]) (t := 38) ?_; intro gb101 hg w6 hbox hb; have BK101 := aM (hbox); have GW101 := gE hg HB; have GE101 := gE hg HB; replace HB := sB HB hb; clear hb hbox hg) | ((with_reducible refine gate_callee (f := 61) rfl ?_); refine gL (some 16) Try.func61 #[.slice A0 l0.length c0, .slice A1 l1.length c1, .int .i64 a2, .int .i64 a3] ?_; (with_reducible refine (price_Bond.calls k _ _ l0 _ _ l1 a2 a3 t102 t103 t104 _ ?side1 ?side2 ?side3 ?side4 A5.out).mono ?_); (case side1 => exact cC HR0 HB); (case side2 => exact HC0.out); (case side3 => exact cC HR1 HB); (case side4 => exact HC1.out); rintro e w7 ⟨rfl, hb⟩; refine ⟨_, rfl, ?_⟩; replace BK101 := bB BK101 hb; replace HB := sB HB hb; (try clear hb)) | ((with_reducible refine gate_dst (N := 9) rfl ?_); refine bE (N := 9) (cs := #[.int .i64 0, .int .i64 0]) (t := 35) ?_; intro gb105 hg w8 hbox hb; have BK105 := aM (hbox); have GW105 := gE hg HB; have GE105 := gE hg HB; have NB101_105 := nL hg BK101; replace BK101 := bB BK101 hb; replace HB := sB HB hb; clear hb hbox hg; have hnb9 := NB101_105.out.symm; have hnc9 := NB101_105.out; obtain ⟨hcz10_0, hcz10_1, hfz10_0, hfz10_1⟩ := cZ2 BK105; obtain ⟨hcz11_0, hcz11_1, hcz11_2, hfz11_0, hfz11_1, hfz11_2⟩ := cZ3 BK101))
 refine bodyPost_ret (results_cell_row rfl _ _ gb101 38 #[.int .i64 t102, .int .i64 t103, .int .i64 t104] (0, 0) _ rfl (by refine bM ?_; refine blk_put (cs := #[.int .i64 t102, .int .i64 t103, .int .i64 0]) ?_ 2 _ rfl; refine bM ?_; refine blk_put (cs := #[.int .i64 t102, .int .i64 0, .int .i64 0]) ?_ 1 _ rfl; refine bM ?_; refine blk_put (cs := #[.int .i64 0, .int .i64 0, .int .i64 0]) ?_ 0 _ rfl; refine bM ?_; refine blk_far ?_ NB101_105.out _; refine bM ?_; refine blk_far ?_ NB101_105.out _; exact bD BK101) Try.underlying38 rfl (by kernel_rfl)) rfl ?_
 exact ⟨by first | rfl | (simp [errW_none, errW_some] <;> rfl) | (simp [*, errW_none, errW_some] <;> rfl), sD HB⟩
end Go.Proofs.Ytohnkcmbogcfhaa.P
namespace Go.Proofs.Ytohnkcmbogcfhaa.P
open Go.Proofs.YtohnkcmbogcfhaaH Go.RowKit Go.Proofs.YtohnkcmbogcfhaaW.PrintWords Go.Proofs.YtohnkcmbogcfhaaW.PrintLast Go.Proofs.YtohnkcmbogcfhaaW.PrintMore
attribute [local go_sem] max2_int min2_int max_two min_two max_three min_three max_four min_four   -- for this text's walks alone
attribute [local go_sem] Go.Proofs.YtohnkcmbogcfhaaH.cell_set_map
mutual
def price_Open.j0 : Nat → List (S71) → List (S47) → Int → Int → Bool → Option ((List (S60)) × Int)
 | 0, _, _, _, _, _ => none
 | k + 1, x0, x1, x2, x3, x19 => if x19 = true then (some (([] : List (S60)), 1)) else (price_Open.l0 k x0 x1 x3 ([] : List (S60)) x2 0)
def price_Open.l0 : Nat → List (S71) → List (S47) → Int → List (S60) → Int → Int → Option ((List (S60)) × Int)
 | 0, _, _, _, _, _, _ => none
 | k + 1, x0, x1, x3, x10, x20, x21 => if x21 < x20 then ((price_Bond.f k x0 x1 x21 x3).bind fun bt101 => (if bt101.2.2 = 0 then (if x10.length < 5864062014805 then (price_Open.l0 k x0 x1 x3 (x10 ++ [(⟨x21, (⟨bt101.1, bt101.2.1⟩ : S35)⟩ : S60)]) x20 (wrap64 (x21 + 1))) else (none)) else (some (([] : List (S60)), bt101.2.2)))) else (some (x10, 0))
end
def price_Open.f (k : Nat) (l0 : List (S71)) (l1 : List (S47)) (a2 : Int) (a3 : Int) : Option ((List (S60)) × Int) := if a2 < 1 then (price_Open.j0 k l0 l1 a2 a3 true) else (price_Open.j0 k l0 l1 a2 a3 (decide (a2 > 8)))
set_option maxHeartbeats 40000000 in
set_option maxRecDepth 100000 in
theorem price_Open.calls (k : Nat) (A0 : Option Addr) (c0 : Nat) (l0 : List (S71)) (A1 : Option Addr) (c1 : Nat) (l1 : List (S47)) (a2 : Int) (a3 : Int) (r1 : List (S60)) (r2 : Int) (w : World) (hr0 : Kd.C k71 w A0 l0.length l0) (hc0 : l0.length ≤ c0) (hr1 : Kd.C k47 w A1 l1.length l1) (hc1 : l1.length ≤ c1) (h : price_Open.f k l0 l1 a2 a3 = some (r1, r2)) :
  Calls Try.prog 64 #[.slice A0 l0.length c0, .slice A1 l1.length c1, .int .i64 a2, .int .i64 a3] w fun e w' => ∃ v0_ : Value, e = .returned (.tuple #[v0_, .int .i64 r2]) ∧ Kd.R k60 60 w' w.heap.size (fun _ => True) v0_ r1 ∧ Below w.heap.size w w' := by
 have hu35 := Try.underlying35; have hu60 := Try.underlying60; have HR0 := aM hr0; have HC0 := aM hc0; clear hr0 hc0; have HR1 := aM hr1; have HC1 := aM hc1; clear hr1 hc1; have HB := aM (Below.refl w.heap.size w)
 have H : (if a2 < 1 then (price_Open.j0 k l0 l1 a2 a3 true) else (price_Open.j0 k l0 l1 a2 a3 (decide (a2 > 8)))) = some (r1, r2) := h
 clear h; have HC5 := aM H; clear H
 go_enter Try.func64, Try.ntmps64
 go_upto_region 1 with (fail)
 go_cut [19] (fun v19 wc => ∃ (kq : Nat) (x19_4 : Bool), v19 = .bool x19_4 ∧ Aside0 (price_Open.j0 kq l0 l1 a2 a3 x19_4 = some (r1, r2)) ∧ Aside0 (kq ≤ k) ∧ Aside0 (Below w.heap.size w wc))
 case first =>
  have H := HC5.out; clear HC5
  by_cases c6 : a2 < 1
  ·rw [if_pos c6] at H
   have c6b0 : decide (a2 < 1) = true := decide_eq_true c6
   clear c6
   (first | rw [c6b0] | (simp only [i64_w, i32_w]; rw [c6b0]) | skip)
   have H' := aM H; clear H
   go_wp2
   go_meet
   case rel => exact ⟨_, (true), (by first | rfl | (simp; done) | (simp [*]; done)), H', ⟨by first | omega | exact Nat.le_refl _⟩, ⟨sD HB⟩⟩
  ·rw [if_neg c6] at H
   have c6b0 : decide (a2 < 1) = false := decide_eq_false c6
   clear c6
   (first | rw [c6b0] | (simp only [i64_w, i32_w]; rw [c6b0]) | skip)
   have H' := aM H; clear H
   go_wp2
   go_meet
   case rel => exact ⟨_, (decide (a2 > 8)), (by first | rfl | (simp; done) | (simp [*]; done)), H', ⟨by first | omega | exact Nat.le_refl _⟩, ⟨sD HB⟩⟩
 case rest =>
  clear HC5
  try clear c1
  try clear p2
  try clear c6
  try clear c6b0
  obtain ⟨kq, x19_4, rfl, HA, HJ4, HB⟩ := hcut
  cases kq with
  | zero => exact absurd HA.out (by simp [price_Open.j0])
  | succ kj4 =>
   have H := HA.out; clear HA
   simp only [price_Open.j0] at H
   by_cases c7 : x19_4 = true
   ·subst c7
    have H1 : (some (([] : List (S60)), 1)) = some (r1, r2) := by rw [if_pos rfl] at H; exact H
    clear H; have H := H1; clear H1
    simp only [Option.some.injEq, Prod.mk.injEq] at H
    obtain ⟨rfl, rfl⟩ := H
    go_wp2
    go_ret2
    exact ⟨_, by first | rfl | (simp [errW_none, errW_some] <;> rfl) | (simp [*, errW_none, errW_some] <;> rfl), by first | exact Kd.R_nil _ _ _ _ _ | exact Kd.N_nil _ _ _ _ _ | exact Kd.V_nil _ _ _ _ _ | exact Kd.Q_nil _ _ _ _ _ | exact Kd.S_nil _ _ _ _ _, sD HB⟩
   ·replace c7 := Bool.eq_false_iff.mpr c7
    subst c7
    have H1 : (price_Open.l0 kj4 l0 l1 a3 ([] : List (S60)) a2 0) = some (r1, r2) := by rw [if_neg (show ¬ (false = true) by decide)] at H; exact H
    clear H; have H := H1; clear H1; have H' := aM H; clear H
    go_wp2
    go_loopg [10, 21] kj4 (fun kq v10 v21 w' => ∃ (x10_2 : List (S60)) (x21_2 : Int), v21 = .int .i64 x21_2 ∧ Aside0 (price_Open.l0 kq l0 l1 a3 x10_2 a2 x21_2 = some (r1, r2)) ∧ Aside0 (kq ≤ kj4) ∧ Aside0 (Kd.R k60 60 w' w.heap.size (fun _ => True) v10 x10_2) ∧ Aside0 (Below w.heap.size w w'))
    case atStart => exact ⟨(([] : List (S60))), (0), (by first | rfl | (simp; done) | (simp [*]; done)), H', ⟨Nat.le_refl _⟩, ⟨by first | exact Kd.R_nil _ _ _ _ _ | exact Kd.N_nil _ _ _ _ _ | exact Kd.V_nil _ _ _ _ _ | exact Kd.Q_nil _ _ _ _ _ | exact Kd.S_nil _ _ _ _ _⟩, ⟨sD HB⟩⟩
    case round =>
     clear H'
     try clear c1
     try clear p2
     try clear c6
     try clear c6b0
     try clear c7
     try clear p2
     obtain ⟨x10_2, x21_2, rfl, HA, HK2, HO_10, HB⟩ := hrel
     cases gk with
     | zero => exact absurd HA.out (by simp [price_Open.l0])
     | succ k2 =>
      have H := HA.out; clear HA
      simp only [price_Open.l0] at H
      by_cases c8 : x21_2 < a2
      ·rw [if_pos c8] at H
       have c8b0 : decide (x21_2 < a2) = true := decide_eq_true c8
       clear c8; replace H := Option.bind_eq_some_iff.mp H
       obtain ⟨⟨t101, t102, t103⟩, A90, H⟩ := H
       replace H : (if t103 = 0 then (if x10_2.length < 5864062014805 then (price_Open.l0 k2 l0 l1 a3 (x10_2 ++ [(⟨x21_2, (⟨t101, t102⟩ : S35)⟩ : S60)]) a2 (wrap64 (x21_2 + 1))) else (none)) else (some (([] : List (S60)), t103))) = some (r1, r2) := H
       have A9 := aM A90; clear A90
       by_cases c10 : t103 = 0
       ·rw [if_pos c10] at H
        have c10b0 : (t103 == 0) = true := beq_iff_eq.mpr c10
        have c10b1 : (t103 != 0) = false := bne_eq_false_iff_eq.mpr c10
        clear c10
        by_cases c11 : x10_2.length < 5864062014805
        ·rw [if_pos c11] at H
         have LMc11 := aM c11; clear c11
         obtain ⟨y105, hy105⟩ : ∃ y_ : List (S60), y_ = (x10_2 ++ [(⟨x21_2, (⟨t101, t102⟩ : S35)⟩ : S60)]) := ⟨_, rfl⟩
         replace H : (price_Open.l0 k2 l0 l1 a3 y105 a2 (wrap64 (x21_2 + 1))) = some (r1, r2) := by first | (rw [hy105]; with_reducible exact H) | (have H2_ := (Option.bind_some _ _).symm.trans H; rw [hy105]; with_reducible exact H2_) | (have H2_ := (Option.bind_some _ _).symm.trans H; with_reducible exact H2_) | with_reducible exact H | (rw [hy105]; exact H) | exact H
         have Ny105 := aM hy105; clear hy105; have H' := aM H; clear H
         go_wp2_with (first | ((with_reducible refine gate_callee (f := 61) rfl ?_); refine gL (some 29) Try.func61 #[.slice A0 l0.length c0, .slice A1 l1.length c1, .int .i64 x21_2, .int .i64 a3] ?_; (with_reducible refine (price_Bond.calls k2 _ _ l0 _ _ l1 x21_2 a3 t101 t102 t103 _ ?side1 ?side2 ?side3 ?side4 A9.out).mono ?_); (case side1 => exact cC HR0 HB); (case side2 => exact HC0.out); (case side3 => exact cC HR1 HB); (case side4 => exact HC1.out); rintro e w12 ⟨rfl, hb⟩; refine ⟨_, rfl, ?_⟩; replace HO_10 := rB HO_10 hb; replace HB := sB HB hb; (try clear hb)) | ((with_reducible refine gate_dst (N := 12) rfl ?_); refine bE (N := 12) (cs := #[.int .i64 0, .int .i64 0]) (t := 35) ?_; intro gb104 hg w13 hbox hb; have BK104 := aM (hbox); have GW104 := gE hg HB; have GE104 := gE hg HB; replace HO_10 := rB HO_10 hb; replace HB := sB HB hb; clear hb hbox hg; obtain ⟨hcz14_0, hcz14_1, hfz14_0, hfz14_1⟩ := cZ2 BK104) | ((with_reducible refine gate_builtin (b := .append) (xs := #[.tmp 35, .tmp 39]) rfl ?_); at_builtin; refine Kd.R_append k60 (w0 := w) w.heap.size rfl (.tmp 35) (.tmp 39) 54 60 (.agg #[(.int .i64 0), (.int .i64 0), (.int .i64 0)]) 24 rfl Try.underlying54 info60 rfl (by decide) (by omega) u10 x10_2 (⟨x21_2, (⟨t101, t102⟩ : S35)⟩ : S60) [.int .i64 x21_2, .int .i64 t101, .int .i64 t102] (fun _ => True) (fun _ => False) rfl (by first | (go_simp; done) | (go_simp; rfl)) ?aP (fun _ hk => hk.elim) ?aF ?aO ?aB ?aS ?aL ?_; (case aP => exact k60_mkM _ _ _ (⟨x21_2, (⟨t101, t102⟩ : S35)⟩ : S60)); (case aB => exact (sD HB)); (case aF => exact (fun _ _ => trivial)); (case aO => exact (rD ⟨Kd.R_mono (Kd.R_far (p := ⟨gb104, 1, none⟩) (Kd.R_far (p := ⟨gb104, 0, none⟩) (Kd.R_types HO_10.out BK104.out (by decide)) (fun _ hk => hk.2) (.int .i64 t101)) (fun _ hk => hk.2) (.int .i64 t102)) (fun _ hk => trivial)⟩)); (case aS => exact (below_size (sD HB))); (case aL => have := LMc11.out; omega); intro v106 w15 ho hb hg hat; rw [← Ny105.out] at ho; have HO107 := aM (ho); replace BK104 := aM (blk_grown (g := gb104) (o := .cells #[.int .i64 t101, .int .i64 t102] 35 (0, 0)) (by refine bM ?_; refine blk_put (cs := #[.int .i64 t101, .int .i64 0]) ?_ 1 _ rfl; refine bM ?_; refine blk_put (cs := #[.int .i64 0, .int .i64 0]) ?_ 0 _ rfl; exact bD BK104) hg (Kd.R_ne HO_10.out BK104.out (by decide))); replace HB := aM (hb); clear HO_10; clear ho hb hg hat))
         go_roundg k2
         case measure => have := HJ4.out; have := HK2.out; omega
         case rel => exact ⟨(y105), (wrap64 (x21_2 + 1)), (by first | rfl | (simp; done) | (simp [*]; done)), H', ⟨by have := HJ4.out; have := HK2.out; omega⟩, ⟨by (with_reducible repeat (first | apply Kd.R_alloc | apply Kd.R_drewN | apply Kd.R_drew)); exact HO107.out⟩, ⟨sD HB⟩⟩
        ·rw [if_neg c11] at H
         exact absurd H (by simp)
       ·rw [if_neg c10] at H
        have c10b0 : (t103 == 0) = false := beq_eq_false_iff_ne.mpr c10
        have c10b1 : (t103 != 0) = true := bne_iff_ne.mpr c10
        simp only [Option.some.injEq, Prod.mk.injEq] at H
        obtain ⟨rfl, rfl⟩ := H
        go_wp2_with (first | ((with_reducible refine gate_callee (f := 61) rfl ?_); refine gL (some 29) Try.func61 #[.slice A0 l0.length c0, .slice A1 l1.length c1, .int .i64 x21_2, .int .i64 a3] ?_; (with_reducible refine (price_Bond.calls k2 _ _ l0 _ _ l1 x21_2 a3 t101 t102 t103 _ ?side1 ?side2 ?side3 ?side4 A9.out).mono ?_); (case side1 => exact cC HR0 HB); (case side2 => exact HC0.out); (case side3 => exact cC HR1 HB); (case side4 => exact HC1.out); rintro e w16 ⟨rfl, hb⟩; refine ⟨_, rfl, ?_⟩; replace HO_10 := rB HO_10 hb; replace HB := sB HB hb; (try clear hb)) | ((with_reducible refine gate_dst (N := 12) rfl ?_); refine bE (N := 12) (cs := #[.int .i64 0, .int .i64 0]) (t := 35) ?_; intro gb104 hg w17 hbox hb; have BK104 := aM (hbox); have GW104 := gE hg HB; have GE104 := gE hg HB; replace HO_10 := rB HO_10 hb; replace HB := sB HB hb; clear hb hbox hg; obtain ⟨hcz18_0, hcz18_1, hfz18_0, hfz18_1⟩ := cZ2 BK104))
        go_ret2
        exact ⟨_, by first | rfl | (simp [errW_none, errW_some] <;> rfl) | (simp [*, errW_none, errW_some] <;> rfl), by first | exact Kd.R_nil _ _ _ _ _ | exact Kd.N_nil _ _ _ _ _ | exact Kd.V_nil _ _ _ _ _ | exact Kd.Q_nil _ _ _ _ _ | exact Kd.S_nil _ _ _ _ _, sD HB⟩
      ·rw [if_neg c8] at H
       have c8b0 : decide (x21_2 < a2) = false := decide_eq_false c8
       clear c8
       simp only [Option.some.injEq, Prod.mk.injEq] at H
       obtain ⟨rfl, rfl⟩ := H
       go_wp2
       go_ret2
       exact ⟨_, by first | rfl | (simp [errW_none, errW_some] <;> rfl) | (simp [*, errW_none, errW_some] <;> rfl), by (with_reducible repeat (first | apply Kd.R_alloc | apply Kd.R_drewN | apply Kd.R_drew)); exact HO_10.out, sD HB⟩
end Go.Proofs.Ytohnkcmbogcfhaa.P
namespace Go.Proofs.Ytohnkcmbogcfhaa.P
open Go.Proofs.YtohnkcmbogcfhaaH Go.RowKit Go.Proofs.YtohnkcmbogcfhaaW.PrintWords Go.Proofs.YtohnkcmbogcfhaaW.PrintLast Go.Proofs.YtohnkcmbogcfhaaW.PrintMore
attribute [local go_sem] max2_int min2_int max_two min_two max_three min_three max_four min_four   -- for this text's walks alone
attribute [local go_sem] Go.Proofs.YtohnkcmbogcfhaaH.cell_set_map
def parolelaw42_open.f (k : Nat) (l0 : List (S71)) (l1 : List (S47)) (a2 : Int) (a3 : Int) : Option ((List (S60)) × Int × Int × Int) := (price_Open.f k l0 l1 a2 a3).bind fun bt102 => (some (bt102.1, 0, 0, bt102.2))
set_option maxHeartbeats 40000000 in
set_option maxRecDepth 100000 in
theorem parolelaw42_open.calls (k : Nat) (A0 : Option Addr) (c0 : Nat) (l0 : List (S71)) (A1 : Option Addr) (c1 : Nat) (l1 : List (S47)) (a2 : Int) (a3 : Int) (r1 : List (S60)) (r2 : Int) (r3 : Int) (r4 : Int) (w : World) (hr0 : Kd.C k71 w A0 l0.length l0) (hc0 : l0.length ≤ c0) (hr1 : Kd.C k47 w A1 l1.length l1) (hc1 : l1.length ≤ c1) (h : parolelaw42_open.f k l0 l1 a2 a3 = some (r1, r2, r3, r4)) :
  Calls Try.prog 35 #[.slice A0 l0.length c0, .slice A1 l1.length c1, .int .i64 a2, .int .i64 a3] w fun e w' => ∃ v0_ : Value, e = .returned (.agg #[v0_, .int .i64 r2, .int .i64 r3, .int .i64 r4]) ∧ Kd.R k60 60 w' w.heap.size (fun _ => True) v0_ r1 ∧ Below w.heap.size w w' := by
 have hu56 := Try.underlying56; have HR0 := aM hr0; have HC0 := aM hc0; clear hr0 hc0; have HR1 := aM hr1; have HC1 := aM hc1; clear hr1 hc1; have HB := aM (Below.refl w.heap.size w)
 have H : ((price_Open.f k l0 l1 a2 a3).bind fun bt102 => (some (bt102.1, 0, 0, bt102.2))) = some (r1, r2, r3, r4) := h
 clear h; replace H := Option.bind_eq_some_iff.mp H
 obtain ⟨⟨t102, t103⟩, A50, H⟩ := H
 replace H : (some (t102, 0, 0, t103)) = some (r1, r2, r3, r4) := H
 have A5 := aM A50; clear A50
 simp only [Option.some.injEq, Prod.mk.injEq] at H
 obtain ⟨rfl, rfl, rfl, rfl⟩ := H
 go_enter Try.func35, Try.ntmps35
 go_wp2_with (first | ((with_reducible refine gate_dst (N := 8) rfl ?_); refine bE (N := 8) (cs := #[.slice none 0 0, .int .i64 0, .int .i64 0, .int .i64 0]) (t := 56) ?_; intro gb101 hg w6 hbox hb; have BK101 := aM (hbox); have GW101 := gE hg HB; have GE101 := gE hg HB; replace HB := sB HB hb; clear hb hbox hg) | ((with_reducible refine gate_callee (f := 64) rfl ?_); refine gL (some 16) Try.func64 #[.slice A0 l0.length c0, .slice A1 l1.length c1, .int .i64 a2, .int .i64 a3] ?_; (with_reducible refine (price_Open.calls k _ _ l0 _ _ l1 a2 a3 t102 t103 _ ?side1 ?side2 ?side3 ?side4 A5.out).mono ?_); (case side1 => exact cC HR0 HB); (case side2 => exact HC0.out); (case side3 => exact cC HR1 HB); (case side4 => exact HC1.out); rintro e w7 ⟨v104, rfl, ho0, hb⟩; refine ⟨_, rfl, ?_⟩; have HO105 := rL (n := 0) ho0 HB; replace BK101 := bB BK101 hb; replace HB := sB HB hb; (try clear hb); (try clear ho0); obtain ⟨Ao8, co8, eo8⟩ := Kd.R_slice HO105.out; subst eo8; obtain ⟨hcz9_0, hcz9_1, hcz9_2, hcz9_3, hfz9_0, hfz9_1, hfz9_2, hfz9_3⟩ := cZ4 BK101))
 refine bodyPost_ret (results_cell_row rfl _ _ gb101 56 #[.slice Ao8 t102.length co8, .int .i64 0, .int .i64 0, .int .i64 t103] (0, 0) _ rfl (by refine bM ?_; refine blk_put (cs := #[.slice Ao8 t102.length co8, .int .i64 0, .int .i64 0, .int .i64 0]) ?_ 3 _ rfl; refine bM ?_; refine blk_put (cs := #[.slice Ao8 t102.length co8, .int .i64 0, .int .i64 0, .int .i64 0]) ?_ 2 _ rfl; refine bM ?_; refine blk_put (cs := #[.slice Ao8 t102.length co8, .int .i64 0, .int .i64 0, .int .i64 0]) ?_ 1 _ rfl; refine bM ?_; refine blk_put (cs := #[.slice none 0 0, .int .i64 0, .int .i64 0, .int .i64 0]) ?_ 0 _ rfl; exact bD BK101) Try.underlying56 rfl (by kernel_rfl)) rfl ?_
 exact ⟨_, by first | rfl | (simp [errW_none, errW_some] <;> rfl) | (simp [*, errW_none, errW_some] <;> rfl), by (with_reducible repeat (first | apply Kd.R_alloc | apply Kd.R_drewN | apply Kd.R_drew)); exact Kd.R_mono (Kd.R_far (p := ⟨gb101, 3, none⟩) (Kd.R_far (p := ⟨gb101, 2, none⟩) (Kd.R_far (p := ⟨gb101, 1, none⟩) (Kd.R_far (p := ⟨gb101, 0, none⟩) (Kd.R_types HO105.out BK101.out (by decide)) (fun _ hk => hk.2) (.slice Ao8 t102.length co8)) (fun _ hk => hk.2) (.int .i64 0)) (fun _ hk => hk.2) (.int .i64 0)) (fun _ hk => hk.2) (.int .i64 t103)) (fun _ hk => trivial), sD HB⟩
end Go.Proofs.Ytohnkcmbogcfhaa.P
namespace Go.Proofs.Ytohnkcmbogcfhaa.P
open Go.Proofs.YtohnkcmbogcfhaaH Go.RowKit Go.Proofs.YtohnkcmbogcfhaaW.PrintWords Go.Proofs.YtohnkcmbogcfhaaW.PrintLast Go.Proofs.YtohnkcmbogcfhaaW.PrintMore
attribute [local go_sem] max2_int min2_int max_two min_two max_three min_three max_four min_four   -- for this text's walks alone
attribute [local go_sem] Go.Proofs.YtohnkcmbogcfhaaH.cell_set_map
def paroleref42_Whole.f (a0 : Int) : Option (Int × Int) := some (a0, 1)
set_option maxHeartbeats 40000000 in
set_option maxRecDepth 100000 in
theorem paroleref42_Whole.calls (a0 : Int) (r1 : Int) (r2 : Int) (w : World) (h : paroleref42_Whole.f a0 = some (r1, r2)) :
  Calls Try.prog 44 #[.int .i64 a0] w fun e w' => e = .returned (.agg #[.int .i64 r1, .int .i64 r2]) ∧ Below w.heap.size w w' := by
 have hu35 := Try.underlying35; have HB := aM (Below.refl w.heap.size w)
 have H : (some (a0, 1)) = some (r1, r2) := h
 clear h
 simp only [Option.some.injEq, Prod.mk.injEq] at H
 obtain ⟨rfl, rfl⟩ := H
 go_enter Try.func44, Try.ntmps44
 go_wp2_with (first | ((with_reducible refine gate_dst (N := 2) rfl ?_); refine bE (N := 2) (cs := #[.int .i64 0, .int .i64 0]) (t := 35) ?_; intro gb101 hg w2 hbox hb; have BK101 := aM (hbox); have GW101 := gE hg HB; have GE101 := gE hg HB; replace HB := sB HB hb; clear hb hbox hg; obtain ⟨hcz3_0, hcz3_1, hfz3_0, hfz3_1⟩ := cZ2 BK101))
 refine bodyPost_ret (results_cell_row rfl _ _ gb101 35 #[.int .i64 a0, .int .i64 1] (0, 0) _ rfl (by refine bM ?_; refine blk_put (cs := #[.int .i64 a0, .int .i64 0]) ?_ 1 _ rfl; refine bM ?_; refine blk_put (cs := #[.int .i64 0, .int .i64 0]) ?_ 0 _ rfl; exact bD BK101) Try.underlying35 rfl (by kernel_rfl)) rfl ?_
 exact ⟨by first | rfl | (simp [errW_none, errW_some] <;> rfl) | (simp [*, errW_none, errW_some] <;> rfl), sD HB⟩
end Go.Proofs.Ytohnkcmbogcfhaa.P
namespace Go.Proofs.Ytohnkcmbogcfhaa.P
open Go.RowKit Go.Proofs.YtohnkcmbogcfhaaW.PrintWords Go.Proofs.YtohnkcmbogcfhaaW.PrintLast Go.Proofs.YtohnkcmbogcfhaaW.PrintMore
def atN (l : List S60) (f : Int) : Nat := l.findIdx (fun x => x.f0 == f)
def price_at.f (l : List S60) (f : Int) : Option Int := if l.length < 1099511627776 then some (if atN l f < l.length then (atN l f : Int) else -1) else none
set_option maxHeartbeats 1000000 in
theorem at_same (x n d f : Int) (g : Nat) (w : World) (hc : w.cell? ⟨g, 0, none⟩ = some (.int .i64 f)) :
  Calls Try.prog 121 #[.agg #[.int .i64 x, .int .i64 n, .int .i64 d], .pointer (some ⟨g, 0, none⟩)] w fun e w' => e = .returned (.bool (x == f)) ∧ Below w.heap.size w w' := by
 have hu60 := Try.underlying60
 have hu35 := Try.underlying35
 have hlt : g < w.heap.size := World.block_lt_of_cell? w _ hc
 have hc' : ∀ o, (w.alloc o).cell? ⟨g, 0, none⟩ = some (.int .i64 f) := fun o => pw_cell_below ((Below.refl w.heap.size w).alloc (Nat.le_refl _) o) hc
 go_enter Try.func121, Try.ntmps121
 go_wp2
 go_ret
 exact ⟨rfl, (Below.refl _ _).alloc (Nat.le_refl _) _⟩
theorem cells60 {w wr : World} {A : Option Addr} {l : List S60} (hr : Kd.C k60 w A l.length l) (hb : Below w.heap.size w wr) (h : Nat) (hh : h < l.length) : ∃ ad, A = some ad ∧ wr.cell? (ad.add (h * 3)) = some (.int .i64 (l.getD h z60).f0) ∧ wr.cell? ⟨(ad.add (h * 3)).block, (ad.add (h * 3)).off + 1, none⟩ = some (.int .i64 (l.getD h z60).f1.f0) ∧ wr.cell? ⟨(ad.add (h * 3)).block, (ad.add (h * 3)).off + 2, none⟩ = some (.int .i64 (l.getD h z60).f1.f1) := by
 obtain ⟨ad, e, h0, h1, h2⟩ := at_T60 hr (h : Int) (by omega) (by omega)
 simp only [Int.toNat_natCast, rd_T60] at h0 h1 h2
 exact ⟨ad, e, pw_cell_below hb h0, pw_cell_below hb h1, pw_cell_below hb h2⟩
set_option maxRecDepth 100000 in
set_option maxHeartbeats 4000000 in
theorem index_any (A : Option Addr) (c : Nat) (l : List S60) (f : Int) (g : Nat) (R : Int) (hR : R = if atN l f < l.length then (atN l f : Int) else -1) (w : World) (hr : Kd.C k60 w A l.length l) (hl : l.length < 1099511627776) (hc : w.cell? ⟨g, 0, none⟩ = some (.int .i64 f)) :
  Calls Try.prog 120 #[.slice A l.length c, .func (.func 121) #[] #[.pointer (some ⟨g, 0, none⟩)]] w fun e w' => e = .returned (.int .i64 R) ∧ Below w.heap.size w w' := by
 have hu60 := Try.underlying60
 have hu35 := Try.underlying35
 have HR := Aside0.mk hr
 have HC := Aside0.mk hc
 have HRR := Aside0.mk hR
 clear hr hc hR
 go_enter Try.func120, Try.ntmps120
 go_wp2
 go_loopw [8] (fun vi wr => ∃ i : Nat, vi = .int .i64 i ∧ i ≤ atN l f ∧ i ≤ l.length ∧ Aside0 (Below w.heap.size w wr)) (fun vi wr => ((l.length : Int) - intOf vi).toNat)
 case atStart => exact ⟨0, rfl, by omega, by omega, ⟨Below.refl _ _⟩⟩
 case round =>
  obtain ⟨i, rfl, h1, h2, HB⟩ := hrel
  by_cases hij : i < l.length
  ·obtain ⟨ad, e, k0, k1, k2⟩ := cells60 HR.out HB.out i hij
   subst e
   have hget : l.getD i z60 = l[i] := by simp [hij]
   have hstep : (l[i].f0 == f) = true → atN l f = i := by
    intro hq
    have h3 : atN l f ≤ i := by
     rcases Nat.lt_or_ge i (atN l f) with h | h
     ·have := List.not_of_lt_findIdx (p := fun x : S60 => x.f0 == f) h
      simp only [hq] at this
      exact absurd this (by simp)
     ·exact h
    omega
   have hnext : (l[i].f0 == f) = false → i + 1 ≤ atN l f := by
    intro hq
    rcases Nat.lt_or_ge i (atN l f) with h | h
    ·exact h
    ·exfalso
     have e : atN l f = i := by omega
     have := List.findIdx_getElem (p := fun x : S60 => x.f0 == f) (xs := l) (w := by unfold atN at e; omega)
     unfold atN at e
     simp only [e] at this
     rw [hq] at this
     cases this
   rw [hget] at k0 k1 k2
   generalize l[i] = x at k0 k1 k2 hstep hnext
   have HS := Aside0.mk hstep
   have HN := Aside0.mk hnext
   have hcc := pw_cell_below HB.out HC.out
   have H1 := Aside0.mk h1
   clear hstep hnext hget h1 h2
   go_wp2_with fail
   refine (at_same x.f0 x.f1.f0 x.f1.f1 f g _ hcc).mono ?_
   rintro e w1 ⟨rfl, hb⟩
   have HB1 := Aside0.mk (below_step HB.out hb)
   clear hb k0 k1 k2 hcc
   cases hq : (x.f0 == f) with
   | true =>
    have E2 := Aside0.mk (HS.out hq)
    go_wp2
    go_ret
    refine ⟨?_, HB1.out⟩
    rw [HRR.out, E2.out, if_pos hij]
    rfl
   | false =>
    have E2 := Aside0.mk (HN.out hq)
    have hil : (i : Int) < 1099511627776 := by omega
    go_wp2
    go_roundw
    case rel => exact ⟨i + 1, by go_num, E2.out, by omega, HB1⟩
    case measure => simp [intOf]; omega
  ·have E2 : Aside0 (¬ atN l f < l.length) := ⟨by omega⟩
   clear h1 h2
   have hijb : decide ((i : Int) < (l.length : Int)) = false := decide_eq_false (by omega)
   go_wp2
   go_ret
   refine ⟨?_, HB.out⟩
   rw [HRR.out, if_neg E2.out]
   rfl
set_option maxHeartbeats 1000000 in
theorem price_at.calls (A0 : Option Addr) (c0 : Nat) (l0 : List (S60)) (a1 : Int) (r : Int) (w : World) (hr0 : Kd.C k60 w A0 l0.length l0) (hc0 : l0.length ≤ c0) (h : price_at.f l0 a1 = some r) :
  Calls Try.prog 103 #[.slice A0 l0.length c0, .int .i64 a1] w fun e w' => e = .returned (.int .i64 r) ∧ Below w.heap.size w w' := by
 unfold price_at.f at h
 split at h
 case isFalse => cases h
 rename_i hl
 have hi := fun w' h1 h2 => index_any A0 c0 l0 a1 w.heap.size r (Option.some.inj h).symm w' h1 hl h2
 clear h
 have HB0 : Below w.heap.size w (w.alloc (.cells #[.int .i64 a1] 3)) := (Below.refl _ w).alloc (Nat.le_refl _) _
 go_enter Try.func103, Try.ntmps103
 go_wp2_with (go_at_call 120; refine (hi _ (Kd.C_alloc hr0 _) ((blk_cell (blk_new w (.cells #[.int .i64 a1] 3)) 0).trans rfl)).mono ?_; rintro e w1 ⟨rfl, hb⟩; have HB1 := below_step HB0 hb)
 go_ret
 exact ⟨rfl, HB1⟩
end Go.Proofs.Ytohnkcmbogcfhaa.P
namespace Go.Proofs.Ytohnkcmbogcfhaa.P
open Go.RowKit Go.Proofs.YtohnkcmbogcfhaaW.PrintWords Go.Proofs.YtohnkcmbogcfhaaW.PrintLast Go.Proofs.YtohnkcmbogcfhaaW.PrintMore
def api_Account_104.f (l0 : List (S60)) : Option ((List (S60))) := (some (([] : List (S60)) : List (S60))).bind fun y101 => (if y101.length + l0.length < 5864062014805 then (some (y101 ++ l0)) else (none))
set_option maxHeartbeats 8000000 in
set_option maxRecDepth 100000 in
theorem clone_some (A0_ : Addr) (c0 : Nat) (l0 : List (S60)) (r : List (S60)) (w : World) (hr0 : Kd.C k60 w (some A0_) l0.length l0) (hc0 : l0.length ≤ c0) (h : api_Account_104.f l0 = some r) :
  Calls Try.prog 104 #[.slice (some A0_) l0.length c0] w fun e w' => ∃ v0_ : Value, e = .returned (v0_) ∧ Kd.R k60 60 w' w.heap.size (fun _ => True) v0_ r ∧ Below w.heap.size w w' := by
 have HR0 := Aside0.mk hr0
 have HC0 := Aside0.mk hc0
 clear hr0 hc0
 have HB := Aside0.mk (Below.refl w.heap.size w)
 have H : ((some (([] : List (S60)) : List (S60))).bind fun y101 => (if y101.length + l0.length < 5864062014805 then (some (y101 ++ l0)) else (none))) = some r := h
 clear h
 obtain ⟨y101, hy101⟩ : ∃ y_ : List (S60), y_ = (([] : List (S60))) := ⟨_, rfl⟩
 replace H : (if y101.length + l0.length < 5864062014805 then (some (y101 ++ l0)) else (none)) = some r := by first | (rw [hy101]; with_reducible exact H) | (have H2_ := (Option.bind_some _ _).symm.trans H; rw [hy101]; with_reducible exact H2_) | (have H2_ := (Option.bind_some _ _).symm.trans H; with_reducible exact H2_) | with_reducible exact H | (rw [hy101]; exact H) | exact H
 have Ny101 := Aside0.mk hy101
 clear hy101
 by_cases c2 : y101.length + l0.length < 5864062014805
 ·rw [if_pos c2] at H
  have LMc2 := Aside0.mk c2
  clear c2
  obtain ⟨y104, hy104⟩ : ∃ y_ : List (S60), y_ = (y101 ++ l0) := ⟨_, rfl⟩
  replace H : (some y104) = some r := by first | (rw [hy104]; with_reducible exact H) | (have H2_ := (Option.bind_some _ _).symm.trans H; rw [hy104]; with_reducible exact H2_) | (have H2_ := (Option.bind_some _ _).symm.trans H; with_reducible exact H2_) | with_reducible exact H | (rw [hy104]; exact H) | exact H
  have Ny104 := Aside0.mk hy104
  clear hy104
  obtain rfl := Option.some.inj H
  have hnil := fun w => Lib.run_eql_slice_nil (P := Try.prog) w 54 60 (some A0_) l0.length c0 0 0 Try.underlying54
  simp only [Option.isNone_some] at hnil
  go_enter Try.func104, Try.ntmps104
  go_wp2_with (first | ((with_reducible refine gate_dst (N := 5) rfl ?_); refine Kd.R_lit k60 _ 60 ?hg (N := 5) ?hd (xs := ([] : List (S60))) (inner := []) (ok := fun _ => True) (okp := fun _ => True) ?hr ?hp (fun _ hk => hk) trivial (Below.refl _ _) (Nat.le_refl _) (by simp) ?_; (case hd => rfl); (case hg => rfl); (case hr => first | (go_simp; done) | (go_simp; rfl)); (case hp => exact (Reps.none _ _)); intro v102 w3 ho4 hb hg_ hnew_; clear hg_ hnew_; (first | rw [← Ny101.out] at ho4 | (simp only [Int.reduceToNat] at ho4; rw [← Ny101.out] at ho4)); have n0_ := Aside0.mk (Kd.R_lower ho4 (below_size (by repeat (first | (with_reducible first | exact HB.out | apply below_alloc | apply pw_below_drewN | apply below_drew1) | exact HB.out)))); have n1_ := Aside0.mk (below_step (by repeat (first | (with_reducible first | exact HB.out | apply below_alloc | apply pw_below_drewN | apply below_drew1) | exact HB.out)) hb); clear HB; have HO103 := n0_; have HB := n1_; clear n0_ n1_; clear hb ho4) | ((with_reducible refine gate_builtin (b := .append) (xs := #[.tmp 5, .tmp 6]) rfl ?_); at_builtin; refine Kd.R_append_rows k60 (w0 := w) w.heap.size rfl (.tmp 5) (.tmp 6) 54 60 (.agg #[(.int .i64 0), (.int .i64 0), (.int .i64 0)]) 24 rfl Try.underlying54 info60 rfl (by decide) (by omega) v102 y101 l0 _ _ _ (fun _ => True) (fun _ => False) rfl rfl ?aO ?aR (fun _ _ h => h) (fun _ h => h.elim) ?aF ?aB ?aS ?aL ?_; (case aR => repeat (first | exact (Kd.C_below HR0.out HB.out) | (with_reducible refine Kd.C_alloc ?_ _) | (with_reducible refine Kd.C_drewN ?_ _) | (with_reducible refine Kd.C_drew ?_))); (case aB => exact (by repeat (first | (with_reducible first | exact HB.out | apply below_alloc | apply pw_below_drewN | apply below_drew1) | exact HB.out))); (case aF => exact (fun _ _ => trivial)); (case aO => exact (by (with_reducible repeat (first | apply Kd.R_alloc | apply Kd.R_drewN | apply Kd.R_drew)); exact HO103.out)); (case aS => exact (below_size (by repeat (first | (with_reducible first | exact HB.out | apply below_alloc | apply pw_below_drewN | apply below_drew1) | exact HB.out)))); (case aL => have := LMc2.out; omega); intro v105 w5 ho hb hg hat; rw [← Ny104.out] at ho; have n0_ := Aside0.mk (hb); have n1_ := Aside0.mk (ho); clear HB; clear HO103; have HB := n0_; have HO106 := n1_; clear n0_ n1_; clear ho hb hg hat))
  go_ret
  exact ⟨_, by first | rfl | (simp [errW_none, errW_some] <;> rfl) | (simp [*, errW_none, errW_some] <;> rfl), by (with_reducible repeat (first | apply Kd.R_alloc | apply Kd.R_drewN | apply Kd.R_drew)); exact HO106.out, by repeat (first | (with_reducible first | exact HB.out | apply below_alloc | apply pw_below_drewN | apply below_drew1) | exact HB.out)⟩
 ·rw [if_neg c2] at H
  exact absurd H (by simp)
set_option maxRecDepth 100000 in
set_option maxHeartbeats 1000000 in
theorem api_Account_104.calls (A0 : Option Addr) (c0 : Nat) (l0 : List (S60)) (r : List (S60)) (w : World) (hr0 : Kd.C k60 w A0 l0.length l0) (hc0 : l0.length ≤ c0) (h : api_Account_104.f l0 = some r) :
  Calls Try.prog 104 #[.slice A0 l0.length c0] w fun e w' => ∃ v0_ : Value, e = .returned (v0_) ∧ Kd.R k60 60 w' w.heap.size (fun _ => True) v0_ r ∧ Below w.heap.size w w' := by
 cases A0 with
 | some ad => exact clone_some ad c0 l0 r w hr0 hc0 h
 | none =>
  have hl : l0 = [] := by
   cases l0 with
   | nil => rfl
   | cons x l =>
    obtain ⟨ad, e, _⟩ := at_T60 hr0 0 (by omega) (by first | (simp; done) | (simp; omega))
    cases e
  subst hl
  have hr : r = [] := by simpa [api_Account_104.f] using h.symm
  subst hr
  have hnil := fun w => Lib.run_eql_slice_nil (P := Try.prog) w 54 60 none 0 c0 0 0 Try.underlying54
  go_enter Try.func104, Try.ntmps104
  go_wp2
  go_ret
  exact ⟨_, rfl, Kd.R_nil _ _ _ _ _, Below.refl _ _⟩
end Go.Proofs.Ytohnkcmbogcfhaa.P
namespace Go.Proofs.Ytohnkcmbogcfhaa.P
open Go.Proofs.YtohnkcmbogcfhaaH Go.RowKit Go.Proofs.YtohnkcmbogcfhaaW.PrintWords Go.Proofs.YtohnkcmbogcfhaaW.PrintLast Go.Proofs.YtohnkcmbogcfhaaW.PrintMore
attribute [local go_sem] max2_int min2_int max_two min_two max_three min_three max_four min_four   -- for this text's walks alone
def rat_Valid.f (k : Nat) (a0_0 : Int) (a0_1 : Int) : Option (Bool) := if a0_1 ≥ 1 then (if a0_1 ≤ 4611686018427387904 then (if a0_0 ≥ (-4611686018427387904) then (if a0_0 ≤ 4611686018427387904 then ((rat_abs.f a0_0).bind fun t102 => ((rat_gcd.f k (([t102, IntKind.u64.wrap (a0_1)] : List Int))).bind fun t106 => (some (t106 == 1)))) else (some false)) else (some false)) else (some false)) else (some false)
def rat_Valid.T1 : Bool × List (List Nat × List Nat) := (true, [([], []), ([0], [0]), ([1], [1]), ([2], [2]), ([3], [3]), ([4, 3], [3, 4]), ([5, 3], [3, 5]), ([3, 6], [3, 6]), ([7, 3], [7]), ([8], [8]), ([9, 8], [8, 9]), ([10, 8], [8, 10]), ([8, 11], [8, 11]), ([12, 8], [12]), ([13], [13]), ([14, 13], [13, 14]), ([15, 13], [13, 15]), ([13, 16], [13, 16]), ([17, 13], [17]), ([18], [18]), ([19, 18], [18, 19]), ([20, 18, 18], [18, 20]), ([18], [18]), ([22, 18], [18, 22]), ([23, 18], [18, 23]), ([21, 24, 18], [18, 21, 24]), ([25, 21, 18], [18, 25]), ([26, 18], [18, 26]), ([18, 27], [18, 27]), ([28, 26, 0, 1, 2, 3, 4, 5, 6, 7, 8, 9, 10, 11, 12, 13, 14, 15, 16, 17, 18, 19, 20, 21, 22, 23, 24, 25, 26, 27, 28], [28])])
def rat_Valid.B1 : List Nat := [0, 1, 3, 7, 15, 31, 63, 127, 255, 511, 1023, 2047, 4095, 8191, 16383, 32767, 65535, 131071, 262143, 524287, 1048575, 2097151, 524287, 4718591, 13107199, 33554431, 67108863, 134217727, 268435455, 536870911]
theorem rat_Valid.tab1 : rtab .any (opsOf Try.f46 1) = rat_Valid.T1 := by kernel_rfl
theorem rat_Valid.bits1 : waitsOk rat_Valid.T1.2 rat_Valid.B1 = true := by kernel_rfl
set_option maxHeartbeats 40000000 in
set_option maxRecDepth 100000 in
theorem rat_Valid.calls (k : Nat) (a0_0 : Int) (a0_1 : Int) (r : Bool) (w : World) (h : rat_Valid.f k a0_0 a0_1 = some r) :
  Calls Try.prog 46 #[.agg #[.int .i64 a0_0, .int .i64 a0_1]] w fun e w' => e = .returned (.bool r) ∧ Below w.heap.size w w' := by
 have hu35 := Try.underlying35; have HB := aM (Below.refl w.heap.size w)
 have H : (if a0_1 ≥ 1 then (if a0_1 ≤ 4611686018427387904 then (if a0_0 ≥ (-4611686018427387904) then (if a0_0 ≤ 4611686018427387904 then ((rat_abs.f a0_0).bind fun t102 => ((rat_gcd.f k (([t102, IntKind.u64.wrap (a0_1)] : List Int))).bind fun t106 => (some (t106 == 1)))) else (some false)) else (some false)) else (some false)) else (some false)) = some r := h
 clear h
 by_cases c2 : a0_1 ≥ 1
 rotate_left
 ·rw [if_neg c2] at H
  have c2b0 : decide (1 ≤ a0_1) = false := decide_eq_false c2
  clear c2
  obtain rfl := Option.some.inj H
  go_enter Try.func46, Try.ntmps46
  try go_wp2_with (first | ((with_reducible refine gate_dst (N := 1) rfl ?_); (try (refine gate_guard (by rfl) ?_; dsimp only)); refine bE (N := 1) (cs := #[.int .i64 a0_0, .int .i64 a0_1]) (t := 35) ?_; intro gb101 hg w19 hbox hb; have BK101 := aM (hbox); have GW101 := gE hg HB; have GE101 := gE hg HB; replace HB := sB HB hb; clear hb hbox hg))
  replace BK101 := aM (blk_drew BK101.out); replace HB := aM (below_drew1 HB.out)
  refine start_ (n := 30) (S := fun w' => w'.cell? ⟨gb101, 0, none⟩ = some (.int .i64 a0_0) ∧ w'.cell? ⟨gb101, 1, none⟩ = some (.int .i64 a0_1)) (ds := []) #[false, false, false, false, false, false, false, false, false, false, false, false, false, false, false, false, false, false, false, false, false, false, false, false, false, false, false, false, false, false] (by kernel_rfl) rfl rfl ⟨cE BK101 0, cE BK101 1⟩ (fun hHeld => ?_); refine with_tabW rat_Valid.tab1 rat_Valid.bits1 (fun HT_ HW_ => ?_)
  generalize w19.drew = w20 at BK101 HB hHeld ⊢
  refine pX (i := 0) (N := some 3) rfl rfl HT_ ?_
  refine tX (i := 1) (N := some 4) rfl rfl HT_ HW_ hHeld (Or.inl ⟨by rfl, by rintro w' ⟨s0, s1⟩; go_simp; with_reducible rfl⟩) ?_
  refine pX (i := 2) (N := some 5) rfl rfl HT_ ?_
  refine pX (i := 3) (N := some 6) rfl rfl HT_ ?_
  refine pU (i := 4) (N := some 7) rfl rfl HT_ ?_
  refine pU (i := 5) (N := some 8) rfl rfl HT_ ?_
  refine pU (i := 6) (N := some 9) rfl rfl HT_ ?_
  refine pX (i := 7) (N := some 10) rfl rfl HT_ ?_
  refine pX (i := 8) (N := some 11) rfl rfl HT_ ?_
  refine pU (i := 9) (N := some 12) rfl rfl HT_ ?_
  refine pU (i := 10) (N := some 13) rfl rfl HT_ ?_
  refine pU (i := 11) (N := some 14) rfl rfl HT_ ?_
  refine pX (i := 12) (N := some 15) rfl rfl HT_ ?_
  refine pX (i := 13) (N := some 16) rfl rfl HT_ ?_
  refine pU (i := 14) (N := some 17) rfl rfl HT_ ?_
  refine pU (i := 15) (N := some 18) rfl rfl HT_ ?_
  refine pU (i := 16) (N := some 19) rfl rfl HT_ ?_
  refine pX (i := 17) (N := some 20) rfl rfl HT_ ?_
  refine pX (i := 18) (N := some 21) rfl rfl HT_ ?_
  refine pU (i := 19) (N := some 22) rfl rfl HT_ ?_
  refine pU (i := 20) (N := some 23) rfl rfl HT_ ?_
  refine pU (i := 21) (N := some 24) rfl rfl HT_ ?_
  refine pU (i := 22) (N := some 25) rfl rfl HT_ ?_
  refine pU (i := 23) (N := some 26) rfl rfl HT_ ?_
  refine pU (i := 24) (N := some 27) rfl rfl HT_ ?_
  refine pU (i := 25) (N := some 28) rfl rfl HT_ ?_
  refine pU (i := 26) (N := some 29) rfl rfl HT_ ?_
  refine pU (i := 27) (N := some 30) rfl rfl HT_ ?_
  refine pX (i := 28) (N := some 31) rfl rfl HT_ ?_
  refine pX (i := 29) (N := some 2) rfl rfl HT_ ?_
  refine done_ (done_of HT_.out (by kernel_rfl)) ?_
  try go_wp2
  go_ret
  exact ⟨by first | rfl | (simp [errW_none, errW_some] <;> rfl) | (simp [*, errW_none, errW_some] <;> rfl), sD HB⟩
 rw [if_pos c2] at H
 have c2b0 : decide (1 ≤ a0_1) = true := decide_eq_true c2
 clear c2
 by_cases c3 : a0_1 ≤ 4611686018427387904
 rotate_left
 ·rw [if_neg c3] at H
  have c3b0 : decide (a0_1 ≤ 4611686018427387904) = false := decide_eq_false c3
  clear c3
  obtain rfl := Option.some.inj H
  go_enter Try.func46, Try.ntmps46
  try go_wp2_with (first | ((with_reducible refine gate_dst (N := 1) rfl ?_); (try (refine gate_guard (by rfl) ?_; dsimp only)); refine bE (N := 1) (cs := #[.int .i64 a0_0, .int .i64 a0_1]) (t := 35) ?_; intro gb101 hg w17 hbox hb; have BK101 := aM (hbox); have GW101 := gE hg HB; have GE101 := gE hg HB; replace HB := sB HB hb; clear hb hbox hg))
  replace BK101 := aM (blk_drew BK101.out); replace HB := aM (below_drew1 HB.out)
  refine start_ (n := 30) (S := fun w' => w'.cell? ⟨gb101, 0, none⟩ = some (.int .i64 a0_0) ∧ w'.cell? ⟨gb101, 1, none⟩ = some (.int .i64 a0_1)) (ds := []) #[false, false, false, false, false, false, false, false, false, false, false, false, false, false, false, false, false, false, false, false, false, false, false, false, false, false, false, false, false, false] (by kernel_rfl) rfl rfl ⟨cE BK101 0, cE BK101 1⟩ (fun hHeld => ?_); refine with_tabW rat_Valid.tab1 rat_Valid.bits1 (fun HT_ HW_ => ?_)
  generalize w17.drew = w18 at BK101 HB hHeld ⊢
  refine pX (i := 0) (N := some 3) rfl rfl HT_ ?_
  refine tX (i := 1) (N := some 4) rfl rfl HT_ HW_ hHeld (Or.inl ⟨by rfl, by rintro w' ⟨s0, s1⟩; go_simp; with_reducible rfl⟩) ?_
  refine pX (i := 2) (N := some 5) rfl rfl HT_ ?_
  refine pX (i := 3) (N := some 6) rfl rfl HT_ ?_
  refine pX (i := 4) (N := some 7) rfl rfl HT_ ?_
  refine tX (i := 5) (N := some 8) rfl rfl HT_ HW_ hHeld (Or.inl ⟨by rfl, by rintro w' ⟨s0, s1⟩; go_simp; with_reducible rfl⟩) ?_
  refine pX (i := 6) (N := some 9) rfl rfl HT_ ?_
  refine pX (i := 7) (N := some 10) rfl rfl HT_ ?_
  refine pX (i := 8) (N := some 11) rfl rfl HT_ ?_
  refine pU (i := 9) (N := some 12) rfl rfl HT_ ?_
  refine pU (i := 10) (N := some 13) rfl rfl HT_ ?_
  refine pU (i := 11) (N := some 14) rfl rfl HT_ ?_
  refine pX (i := 12) (N := some 15) rfl rfl HT_ ?_
  refine pX (i := 13) (N := some 16) rfl rfl HT_ ?_
  refine pU (i := 14) (N := some 17) rfl rfl HT_ ?_
  refine pU (i := 15) (N := some 18) rfl rfl HT_ ?_
  refine pU (i := 16) (N := some 19) rfl rfl HT_ ?_
  refine pX (i := 17) (N := some 20) rfl rfl HT_ ?_
  refine pX (i := 18) (N := some 21) rfl rfl HT_ ?_
  refine pU (i := 19) (N := some 22) rfl rfl HT_ ?_
  refine pU (i := 20) (N := some 23) rfl rfl HT_ ?_
  refine pU (i := 21) (N := some 24) rfl rfl HT_ ?_
  refine pU (i := 22) (N := some 25) rfl rfl HT_ ?_
  refine pU (i := 23) (N := some 26) rfl rfl HT_ ?_
  refine pU (i := 24) (N := some 27) rfl rfl HT_ ?_
  refine pU (i := 25) (N := some 28) rfl rfl HT_ ?_
  refine pU (i := 26) (N := some 29) rfl rfl HT_ ?_
  refine pU (i := 27) (N := some 30) rfl rfl HT_ ?_
  refine pX (i := 28) (N := some 31) rfl rfl HT_ ?_
  refine pX (i := 29) (N := some 2) rfl rfl HT_ ?_
  refine done_ (done_of HT_.out (by kernel_rfl)) ?_
  try go_wp2
  go_ret
  exact ⟨by first | rfl | (simp [errW_none, errW_some] <;> rfl) | (simp [*, errW_none, errW_some] <;> rfl), sD HB⟩
 rw [if_pos c3] at H
 have c3b0 : decide (a0_1 ≤ 4611686018427387904) = true := decide_eq_true c3
 clear c3
 by_cases c4 : a0_0 ≥ (-4611686018427387904)
 rotate_left
 ·rw [if_neg c4] at H
  have c4b0 : decide ((-4611686018427387904) ≤ a0_0) = false := decide_eq_false c4
  clear c4
  obtain rfl := Option.some.inj H
  go_enter Try.func46, Try.ntmps46
  try go_wp2_with (first | ((with_reducible refine gate_dst (N := 1) rfl ?_); (try (refine gate_guard (by rfl) ?_; dsimp only)); refine bE (N := 1) (cs := #[.int .i64 a0_0, .int .i64 a0_1]) (t := 35) ?_; intro gb101 hg w15 hbox hb; have BK101 := aM (hbox); have GW101 := gE hg HB; have GE101 := gE hg HB; replace HB := sB HB hb; clear hb hbox hg))
  replace BK101 := aM (blk_drew BK101.out); replace HB := aM (below_drew1 HB.out)
  refine start_ (n := 30) (S := fun w' => w'.cell? ⟨gb101, 0, none⟩ = some (.int .i64 a0_0) ∧ w'.cell? ⟨gb101, 1, none⟩ = some (.int .i64 a0_1)) (ds := []) #[false, false, false, false, false, false, false, false, false, false, false, false, false, false, false, false, false, false, false, false, false, false, false, false, false, false, false, false, false, false] (by kernel_rfl) rfl rfl ⟨cE BK101 0, cE BK101 1⟩ (fun hHeld => ?_); refine with_tabW rat_Valid.tab1 rat_Valid.bits1 (fun HT_ HW_ => ?_)
  generalize w15.drew = w16 at BK101 HB hHeld ⊢
  refine pX (i := 0) (N := some 3) rfl rfl HT_ ?_
  refine tX (i := 1) (N := some 4) rfl rfl HT_ HW_ hHeld (Or.inl ⟨by rfl, by rintro w' ⟨s0, s1⟩; go_simp; with_reducible rfl⟩) ?_
  refine pX (i := 2) (N := some 5) rfl rfl HT_ ?_
  refine pX (i := 3) (N := some 6) rfl rfl HT_ ?_
  refine pX (i := 4) (N := some 7) rfl rfl HT_ ?_
  refine tX (i := 5) (N := some 8) rfl rfl HT_ HW_ hHeld (Or.inl ⟨by rfl, by rintro w' ⟨s0, s1⟩; go_simp; with_reducible rfl⟩) ?_
  refine pX (i := 6) (N := some 9) rfl rfl HT_ ?_
  refine pX (i := 7) (N := some 10) rfl rfl HT_ ?_
  refine pX (i := 8) (N := some 11) rfl rfl HT_ ?_
  refine pX (i := 9) (N := some 12) rfl rfl HT_ ?_
  refine tX (i := 10) (N := some 13) rfl rfl HT_ HW_ hHeld (Or.inl ⟨by rfl, by rintro w' ⟨s0, s1⟩; go_simp; with_reducible rfl⟩) ?_
  refine pX (i := 11) (N := some 14) rfl rfl HT_ ?_
  refine pX (i := 12) (N := some 15) rfl rfl HT_ ?_
  refine pX (i := 13) (N := some 16) rfl rfl HT_ ?_
  refine pU (i := 14) (N := some 17) rfl rfl HT_ ?_
  refine pU (i := 15) (N := some 18) rfl rfl HT_ ?_
  refine pU (i := 16) (N := some 19) rfl rfl HT_ ?_
  refine pX (i := 17) (N := some 20) rfl rfl HT_ ?_
  refine pX (i := 18) (N := some 21) rfl rfl HT_ ?_
  refine pU (i := 19) (N := some 22) rfl rfl HT_ ?_
  refine pU (i := 20) (N := some 23) rfl rfl HT_ ?_
  refine pU (i := 21) (N := some 24) rfl rfl HT_ ?_
  refine pU (i := 22) (N := some 25) rfl rfl HT_ ?_
  refine pU (i := 23) (N := some 26) rfl rfl HT_ ?_
  refine pU (i := 24) (N := some 27) rfl rfl HT_ ?_
  refine pU (i := 25) (N := some 28) rfl rfl HT_ ?_
  refine pU (i := 26) (N := some 29) rfl rfl HT_ ?_
  refine pU (i := 27) (N := some 30) rfl rfl HT_ ?_
  refine pX (i := 28) (N := some 31) rfl rfl HT_ ?_
  refine pX (i := 29) (N := some 2) rfl rfl HT_ ?_
  refine done_ (done_of HT_.out (by kernel_rfl)) ?_
  try go_wp2
  go_ret
  exact ⟨by first | rfl | (simp [errW_none, errW_some] <;> rfl) | (simp [*, errW_none, errW_some] <;> rfl), sD HB⟩
 rw [if_pos c4] at H
 have c4b0 : decide ((-4611686018427387904) ≤ a0_0) = true := decide_eq_true c4
 clear c4
 by_cases c5 : a0_0 ≤ 4611686018427387904
 rotate_left
 ·rw [if_neg c5] at H
  have c5b0 : decide (a0_0 ≤ 4611686018427387904) = false := decide_eq_false c5
  clear c5
  obtain rfl := Option.some.inj H
  go_enter Try.func46, Try.ntmps46
  try go_wp2_with (first | ((with_reducible refine gate_dst (N := 1) rfl ?_); (try (refine gate_guard (by rfl) ?_; dsimp only)); refine bE (N := 1) (cs := #[.int .i64 a0_0, .int .i64 a0_1]) (t := 35) ?_; intro gb101 hg w13 hbox hb; have BK101 := aM (hbox); have GW101 := gE hg HB; have GE101 := gE hg HB; replace HB := sB HB hb; clear hb hbox hg))
  replace BK101 := aM (blk_drew BK101.out); replace HB := aM (below_drew1 HB.out)
  refine start_ (n := 30) (S := fun w' => w'.cell? ⟨gb101, 0, none⟩ = some (.int .i64 a0_0) ∧ w'.cell? ⟨gb101, 1, none⟩ = some (.int .i64 a0_1)) (ds := []) #[false, false, false, false, false, false, false, false, false, false, false, false, false, false, false, false, false, false, false, false, false, false, false, false, false, false, false, false, false, false] (by kernel_rfl) rfl rfl ⟨cE BK101 0, cE BK101 1⟩ (fun hHeld => ?_); refine with_tabW rat_Valid.tab1 rat_Valid.bits1 (fun HT_ HW_ => ?_)
  generalize w13.drew = w14 at BK101 HB hHeld ⊢
  refine pX (i := 0) (N := some 3) rfl rfl HT_ ?_
  refine tX (i := 1) (N := some 4) rfl rfl HT_ HW_ hHeld (Or.inl ⟨by rfl, by rintro w' ⟨s0, s1⟩; go_simp; with_reducible rfl⟩) ?_
  refine pX (i := 2) (N := some 5) rfl rfl HT_ ?_
  refine pX (i := 3) (N := some 6) rfl rfl HT_ ?_
  refine pX (i := 4) (N := some 7) rfl rfl HT_ ?_
  refine tX (i := 5) (N := some 8) rfl rfl HT_ HW_ hHeld (Or.inl ⟨by rfl, by rintro w' ⟨s0, s1⟩; go_simp; with_reducible rfl⟩) ?_
  refine pX (i := 6) (N := some 9) rfl rfl HT_ ?_
  refine pX (i := 7) (N := some 10) rfl rfl HT_ ?_
  refine pX (i := 8) (N := some 11) rfl rfl HT_ ?_
  refine pX (i := 9) (N := some 12) rfl rfl HT_ ?_
  refine tX (i := 10) (N := some 13) rfl rfl HT_ HW_ hHeld (Or.inl ⟨by rfl, by rintro w' ⟨s0, s1⟩; go_simp; with_reducible rfl⟩) ?_
  refine pX (i := 11) (N := some 14) rfl rfl HT_ ?_
  refine pX (i := 12) (N := some 15) rfl rfl HT_ ?_
  refine pX (i := 13) (N := some 16) rfl rfl HT_ ?_
  refine pX (i := 14) (N := some 17) rfl rfl HT_ ?_
  refine tX (i := 15) (N := some 18) rfl rfl HT_ HW_ hHeld (Or.inl ⟨by rfl, by rintro w' ⟨s0, s1⟩; go_simp; with_reducible rfl⟩) ?_
  refine pX (i := 16) (N := some 19) rfl rfl HT_ ?_
  refine pX (i := 17) (N := some 20) rfl rfl HT_ ?_
  refine pX (i := 18) (N := some 21) rfl rfl HT_ ?_
  refine pU (i := 19) (N := some 22) rfl rfl HT_ ?_
  refine pU (i := 20) (N := some 23) rfl rfl HT_ ?_
  refine pU (i := 21) (N := some 24) rfl rfl HT_ ?_
  refine pU (i := 22) (N := some 25) rfl rfl HT_ ?_
  refine pU (i := 23) (N := some 26) rfl rfl HT_ ?_
  refine pU (i := 24) (N := some 27) rfl rfl HT_ ?_
  refine pU (i := 25) (N := some 28) rfl rfl HT_ ?_
  refine pU (i := 26) (N := some 29) rfl rfl HT_ ?_
  refine pU (i := 27) (N := some 30) rfl rfl HT_ ?_
  refine pX (i := 28) (N := some 31) rfl rfl HT_ ?_
  refine pX (i := 29) (N := some 2) rfl rfl HT_ ?_
  refine done_ (done_of HT_.out (by kernel_rfl)) ?_
  try go_wp2
  go_ret
  exact ⟨by first | rfl | (simp [errW_none, errW_some] <;> rfl) | (simp [*, errW_none, errW_some] <;> rfl), sD HB⟩
 rw [if_pos c5] at H
 have c5b0 : decide (a0_0 ≤ 4611686018427387904) = true := decide_eq_true c5
 clear c5; replace H := Option.bind_eq_some_iff.mp H
 obtain ⟨t102, A60, H⟩ := H
 replace H : ((rat_gcd.f k (([t102, IntKind.u64.wrap (a0_1)] : List Int))).bind fun t106 => (some (t106 == 1))) = some r := H
 have A6 := aM A60; clear A60
 obtain ⟨y103, hy103⟩ : ∃ y_ : List Int, y_ = (([t102, IntKind.u64.wrap (a0_1)] : List Int)) := ⟨_, rfl⟩
 replace H : ((rat_gcd.f k y103).bind fun t106 => (some (t106 == 1))) = some r := by first | (rw [hy103]; with_reducible exact H) | (have H2_ := (Option.bind_some _ _).symm.trans H; rw [hy103]; with_reducible exact H2_) | (have H2_ := (Option.bind_some _ _).symm.trans H; with_reducible exact H2_) | with_reducible exact H | (rw [hy103]; exact H) | exact H
 have Ny103 := aM hy103; clear hy103; replace H := Option.bind_eq_some_iff.mp H
 obtain ⟨t106, A70, H⟩ := H
 replace H : (some (t106 == 1)) = some r := H
 have A7 := aM A70; clear A70
 obtain rfl := Option.some.inj H
 go_enter Try.func46, Try.ntmps46
 try go_wp2_with (first | ((with_reducible refine gate_dst (N := 1) rfl ?_); (try (refine gate_guard (by rfl) ?_; dsimp only)); refine bE (N := 1) (cs := #[.int .i64 a0_0, .int .i64 a0_1]) (t := 35) ?_; intro gb101 hg w8 hbox hb; have BK101 := aM (hbox); have GW101 := gE hg HB; have GE101 := gE hg HB; replace HB := sB HB hb; clear hb hbox hg))
 replace BK101 := aM (blk_drew BK101.out); replace HB := aM (below_drew1 HB.out)
 refine start_ (n := 30) (S := fun w' => w'.cell? ⟨gb101, 0, none⟩ = some (.int .i64 a0_0) ∧ w'.cell? ⟨gb101, 1, none⟩ = some (.int .i64 a0_1)) (ds := []) #[false, false, false, false, false, false, false, false, false, false, false, false, false, false, false, false, false, false, false, false, false, false, false, false, false, false, false, false, false, false] (by kernel_rfl) rfl rfl ⟨cE BK101 0, cE BK101 1⟩ (fun hHeld => ?_); refine with_tabW rat_Valid.tab1 rat_Valid.bits1 (fun HT_ HW_ => ?_)
 generalize w8.drew = w9 at BK101 HB hHeld ⊢
 refine pX (i := 0) (N := some 3) rfl rfl HT_ ?_
 refine tX (i := 1) (N := some 4) rfl rfl HT_ HW_ hHeld (Or.inl ⟨by rfl, by rintro w' ⟨s0, s1⟩; go_simp; with_reducible rfl⟩) ?_
 refine pX (i := 2) (N := some 5) rfl rfl HT_ ?_
 refine pX (i := 3) (N := some 6) rfl rfl HT_ ?_
 refine pX (i := 4) (N := some 7) rfl rfl HT_ ?_
 refine tX (i := 5) (N := some 8) rfl rfl HT_ HW_ hHeld (Or.inl ⟨by rfl, by rintro w' ⟨s0, s1⟩; go_simp; with_reducible rfl⟩) ?_
 refine pX (i := 6) (N := some 9) rfl rfl HT_ ?_
 refine pX (i := 7) (N := some 10) rfl rfl HT_ ?_
 refine pX (i := 8) (N := some 11) rfl rfl HT_ ?_
 refine pX (i := 9) (N := some 12) rfl rfl HT_ ?_
 refine tX (i := 10) (N := some 13) rfl rfl HT_ HW_ hHeld (Or.inl ⟨by rfl, by rintro w' ⟨s0, s1⟩; go_simp; with_reducible rfl⟩) ?_
 refine pX (i := 11) (N := some 14) rfl rfl HT_ ?_
 refine pX (i := 12) (N := some 15) rfl rfl HT_ ?_
 refine pX (i := 13) (N := some 16) rfl rfl HT_ ?_
 refine pX (i := 14) (N := some 17) rfl rfl HT_ ?_
 refine tX (i := 15) (N := some 18) rfl rfl HT_ HW_ hHeld (Or.inl ⟨by rfl, by rintro w' ⟨s0, s1⟩; go_simp; with_reducible rfl⟩) ?_
 refine pX (i := 16) (N := some 19) rfl rfl HT_ ?_
 refine pX (i := 17) (N := some 20) rfl rfl HT_ ?_
 refine pX (i := 18) (N := some 21) rfl rfl HT_ ?_
 refine pX (i := 19) (N := some 22) rfl rfl HT_ ?_
 refine pX (i := 22) (N := some 25) rfl rfl HT_ ?_
 refine tX (i := 20) (N := some 23) rfl rfl HT_ HW_ hHeld (Or.inl ⟨by rfl, by rintro w' ⟨s0, s1⟩; go_simp; with_reducible rfl⟩) ?_
 refine tX (i := 23) (N := some 26) rfl rfl HT_ HW_ hHeld (Or.inl ⟨by rfl, by rintro w' ⟨s0, s1⟩; go_simp; with_reducible rfl⟩) ?_
 refine pX (i := 24) (N := some 27) rfl rfl HT_ ?_
 refine oX (i := 21) (N := some 24) rfl rfl HT_ (fun K hK => ?_)
 refine gS Try.func72 #[.int .i64 a0_0] ?_
 with_reducible refine (rat_abs.calls a0_0 t102 _ A6.out).mono ?_
 rintro e w' ⟨rfl, ⟨nd, rfl⟩⟩
 refine ⟨_, rfl, ?_⟩
 refine hK.out _ _ ⟨cE BK101 0, cE BK101 1⟩ (fun hHeld => ?_)
 clear hK K
 refine nX (some 24) ?_
 refine oX (i := 25) (N := some 28) rfl rfl HT_ (fun K hK => ?_)
 refine Kd.R_lit_step (Kd.int .u64) _ 119 ?hg (N := 28) ?hd (xs := ([t102, IntKind.u64.wrap (a0_1)] : List Int)) (inner := [.int .u64 t102, .int .u64 (IntKind.u64.wrap (a0_1))]) (ok := fun _ => True) (okp := fun _ => True) ?hr ?hp (fun _ hk => hk) trivial (Below.refl _ _) (Nat.le_refl _) (by simp) ?_; (case hd => rfl); (case hg => rfl); (case hr => first | (go_simp; done) | (go_simp; rfl)); (case hp => exact (Reps.one (show Kd.M (Kd.int .u64) _ _ _ t102 [.int .u64 t102] from rfl) (Reps.one (show Kd.M (Kd.int .u64) _ _ _ (IntKind.u64.wrap (a0_1)) [.int .u64 (IntKind.u64.wrap (a0_1))] from rfl) (Reps.none _ _))))
 intro v104 w10 ho11 hb hg_ hnew_
 clear hg_ hnew_
 (first | rw [← Ny103.out] at ho11 | (simp only [Int.reduceToNat] at ho11; rw [← Ny103.out] at ho11))
 have HO105 := rL (n := 0) ho11 HB; replace BK101 := bB BK101 hb; replace HB := sB HB hb; clear hb ho11
 obtain ⟨Ao12, co12, eo12⟩ := Kd.R_slice HO105.out
 (first | subst eo12 | (injection eo12 with f1_ f2_ f3_; have f4_ := f1_.symm; have f5_ := f3_.symm; clear f1_ f2_ f3_; subst f4_; subst f5_))
 refine hK.out _ _ ⟨cE BK101 0, cE BK101 1⟩ (fun hHeld => ?_)
 clear hK K
 refine nX (some 28) ?_
 refine oX (i := 26) (N := some 29) rfl rfl HT_ (fun K hK => ?_)
 refine gS Try.func71 #[.slice Ao12 y103.length co12] ?_
 with_reducible refine (rat_gcd.calls k _ _ y103 t106 _ ?side1 ?side2 A7.out).mono ?_
 (case side1 => exact rC HO105)
 (case side2 => exact rN HO105)
 rintro e w' ⟨rfl, ⟨nd, rfl⟩⟩
 refine ⟨_, rfl, ?_⟩
 refine hK.out _ _ ⟨cE BK101 0, cE BK101 1⟩ (fun hHeld => ?_)
 clear hK K
 refine nX (some 29) ?_
 refine pX (i := 27) (N := some 30) rfl rfl HT_ ?_
 refine pX (i := 28) (N := some 31) rfl rfl HT_ ?_
 refine pX (i := 29) (N := some 2) rfl rfl HT_ ?_
 refine done_ (done_of HT_.out (by kernel_rfl)) ?_
 try go_wp2
 go_ret
 exact ⟨by first | rfl | (simp [errW_none, errW_some] <;> rfl) | (simp [*, errW_none, errW_some] <;> rfl), sD HB⟩
end Go.Proofs.Ytohnkcmbogcfhaa.P
namespace Go.Proofs.Ytohnkcmbogcfhaa.P
open Go.Proofs.YtohnkcmbogcfhaaH Go.RowKit Go.Proofs.YtohnkcmbogcfhaaW.PrintWords Go.Proofs.YtohnkcmbogcfhaaW.PrintLast Go.Proofs.YtohnkcmbogcfhaaW.PrintMore
attribute [local go_sem] max2_int min2_int max_two min_two max_three min_three max_four min_four   -- for this text's walks alone
attribute [local go_sem] Go.Proofs.YtohnkcmbogcfhaaH.cell_set_map
def rat_Sub.f (k : Nat) (a0_0 : Int) (a0_1 : Int) (a1_0 : Int) (a1_1 : Int) : Option (Int × Int × Int) := (rat_Add.f k a0_0 a0_1 (wrap64 (-a1_0)) a1_1).bind fun bt104 => (some (bt104.1, bt104.2.1, bt104.2.2))
set_option maxHeartbeats 40000000 in
set_option maxRecDepth 100000 in
theorem rat_Sub.calls (k : Nat) (a0_0 : Int) (a0_1 : Int) (a1_0 : Int) (a1_1 : Int) (r1 : Int) (r2 : Int) (r3 : Int) (w : World) (h : rat_Sub.f k a0_0 a0_1 a1_0 a1_1 = some (r1, r2, r3)) :
  Calls Try.prog 48 #[.agg #[.int .i64 a0_0, .int .i64 a0_1], .agg #[.int .i64 a1_0, .int .i64 a1_1]] w fun e w' => e = .returned (.tuple #[.agg #[.int .i64 r1, .int .i64 r2], .int .i64 r3]) ∧ Below w.heap.size w w' := by
 have hu35 := Try.underlying35; have HB := aM (Below.refl w.heap.size w)
 have H : ((rat_Add.f k a0_0 a0_1 (wrap64 (-a1_0)) a1_1).bind fun bt104 => (some (bt104.1, bt104.2.1, bt104.2.2))) = some (r1, r2, r3) := h
 clear h; replace H := Option.bind_eq_some_iff.mp H
 obtain ⟨⟨t104, t105, t106⟩, A30, H⟩ := H
 replace H : (some (t104, t105, t106)) = some (r1, r2, r3) := H
 have A3 := aM A30; clear A30
 simp only [Option.some.injEq, Prod.mk.injEq] at H
 obtain ⟨rfl, rfl, rfl⟩ := H
 go_enter Try.func48, Try.ntmps48
 go_wp2_with (first | ((with_reducible refine gate_dst (N := 2) rfl ?_); refine bE (N := 2) (cs := #[.int .i64 a0_0, .int .i64 a0_1]) (t := 35) ?_; intro gb101 hg w4 hbox hb; have BK101 := aM (hbox); have GW101 := gE hg HB; have GE101 := gE hg HB; replace HB := sB HB hb; clear hb hbox hg) | ((with_reducible refine gate_dst (N := 3) rfl ?_); refine bE (N := 3) (cs := #[.int .i64 a1_0, .int .i64 a1_1]) (t := 35) ?_; intro gb102 hg w5 hbox hb; have BK102 := aM (hbox); have GW102 := gE hg HB; have GE102 := gE hg HB; have NB101_102 := nL hg BK101; replace BK101 := bB BK101 hb; replace HB := sB HB hb; clear hb hbox hg) | ((with_reducible refine gate_dst (N := 4) rfl ?_); refine bE (N := 4) (cs := #[.int .i64 0, .int .i64 0]) (t := 35) ?_; intro gb103 hg w6 hbox hb; have BK103 := aM (hbox); have GW103 := gE hg HB; have GE103 := gE hg HB; have NB101_103 := nL hg BK101; have NB102_103 := nL hg BK102; replace BK101 := bB BK101 hb; replace BK102 := bB BK102 hb; replace HB := sB HB hb; clear hb hbox hg; have hnb7 := NB101_102.out; have hnc7 := NB101_102.out.symm; have hnb8 := NB101_103.out; have hnc8 := NB101_103.out.symm; obtain ⟨hcz9_0, hcz9_1, hfz9_0, hfz9_1⟩ := cZ2 BK101; have hnb10 := NB102_103.out; have hnc10 := NB102_103.out.symm; obtain ⟨hcz11_0, hcz11_1, hfz11_0, hfz11_1⟩ := cZ2 BK102) | ((with_reducible refine gate_callee (f := 50) rfl ?_); refine gL (some 13) Try.func50 #[.agg #[.int .i64 a0_0, .int .i64 a0_1], .agg #[.int .i64 (wrap64 (-a1_0)), .int .i64 a1_1]] ?_; (with_reducible refine (rat_Add.calls k a0_0 a0_1 (wrap64 (-a1_0)) a1_1 t104 t105 t106 _ A3.out).mono ?_); rintro e w12 ⟨rfl, hb⟩; refine ⟨_, rfl, ?_⟩; replace BK101 := bB BK101 hb; replace BK102 := bB BK102 hb; replace BK103 := bB BK103 hb; replace HB := sB HB hb; (try clear hb); obtain ⟨hcz13_0, hcz13_1, hfz13_0, hfz13_1⟩ := cZ2 BK103))
 refine bodyPost_ret (results_ct rfl _ _ gb103 35 #[.int .i64 t104, .int .i64 t105] (0, 0) _ rfl (by refine bM ?_; refine blk_put (cs := #[.int .i64 t104, .int .i64 0]) ?_ 1 _ rfl; refine bM ?_; refine blk_put (cs := #[.int .i64 0, .int .i64 0]) ?_ 0 _ rfl; exact bD BK103) Try.underlying35 rfl (by kernel_rfl)) rfl ?_
 exact ⟨by first | rfl | (simp [errW_none, errW_some] <;> rfl) | (simp [*, errW_none, errW_some] <;> rfl), sD HB⟩
end Go.Proofs.Ytohnkcmbogcfhaa.P
namespace Go.Proofs.Ytohnkcmbogcfhaa.P
open Go.Proofs.YtohnkcmbogcfhaaH Go.RowKit Go.Proofs.YtohnkcmbogcfhaaW.PrintWords Go.Proofs.YtohnkcmbogcfhaaW.PrintLast Go.Proofs.YtohnkcmbogcfhaaW.PrintMore
attribute [local go_sem] max2_int min2_int max_two min_two max_three min_three max_four min_four   -- for this text's walks alone
attribute [local go_sem] Go.Proofs.YtohnkcmbogcfhaaH.cell_set_map
attribute [local go_sem high] eqA35
def rat_Cmp.f (a0_0 : Int) (a0_1 : Int) (a1_0 : Int) (a1_1 : Int) : Option (Int) := if (a0_0 == a1_0 && (a0_1 == a1_1)) = true then (some 0) else ((rat_times.f a1_0 a0_1).bind fun bt103 => ((rat_times.f a0_0 a1_1).bind fun bt107 => ((rat_wide_plus.f bt107.1 bt107.2.1 bt107.2.2 (!bt103.1) bt103.2.1 bt103.2.2).bind fun bt110 => (if bt110.1 = true then (some (-1)) else (some 1)))))
def rat_Cmp.T5 : Bool × List (List Nat × List Nat) := (true, [([], []), ([0], [0]), ([], []), ([2], [2]), ([1, 3], [1, 3]), ([], []), ([4, 5, 4], [4, 5]), ([6], [6])])
def rat_Cmp.B5 : List Nat := [0, 1, 0, 4, 15, 0, 63, 127]
theorem rat_Cmp.tab5 : rtab .any (opsOf Try.f47 5) = rat_Cmp.T5 := by kernel_rfl
theorem rat_Cmp.bits5 : waitsOk rat_Cmp.T5.2 rat_Cmp.B5 = true := by kernel_rfl
set_option maxHeartbeats 40000000 in
set_option maxRecDepth 100000 in
theorem rat_Cmp.calls (a0_0 : Int) (a0_1 : Int) (a1_0 : Int) (a1_1 : Int) (r : Int) (w : World) (h : rat_Cmp.f a0_0 a0_1 a1_0 a1_1 = some r) :
  Calls Try.prog 47 #[.agg #[.int .i64 a0_0, .int .i64 a0_1], .agg #[.int .i64 a1_0, .int .i64 a1_1]] w fun e w' => e = .returned (.int .i64 r) ∧ Below w.heap.size w w' := by
 have hu35 := Try.underlying35; have hu123 := Try.underlying123
 have hfd123_0 : ∀ (x0 x1 x2 : Value) (W : World), (Instr.field 123 (.agg #[x0, x1, x2]) 0).run Try.prog W = .ok (x0) W := fun _ _ _ _ => by kernel_rfl
 have HB := aM (Below.refl w.heap.size w)
 have H : (if (a0_0 == a1_0 && (a0_1 == a1_1)) = true then (some 0) else ((rat_times.f a1_0 a0_1).bind fun bt103 => ((rat_times.f a0_0 a1_1).bind fun bt107 => ((rat_wide_plus.f bt107.1 bt107.2.1 bt107.2.2 (!bt103.1) bt103.2.1 bt103.2.2).bind fun bt110 => (if bt110.1 = true then (some (-1)) else (some 1)))))) = some r := h
 clear h
 by_cases c3 : (a0_0 == a1_0 && (a0_1 == a1_1)) = true
 ·rw [if_pos c3] at H
  have c3b0 : (a0_0 == a1_0 && (a0_1 == a1_1)) = true := c3
  (try (have c3b1 : decide (a0_0 = a1_0 && (a0_1 == a1_1)) = true := by simpa using c3))
  (try (have c3b2 : (a0_0 == a1_0 && (a0_1 == a1_1)) = true := by simpa using c3))
  clear c3
  obtain rfl := Option.some.inj H
  go_enter Try.func47, Try.ntmps47
  go_wp2_with (first | ((with_reducible refine gate_dst (N := 2) rfl ?_); refine bE (N := 2) (cs := #[.int .i64 a0_0, .int .i64 a0_1]) (t := 35) ?_; intro gb101 hg w4 hbox hb; have BK101 := aM (hbox); have GW101 := gE hg HB; have GE101 := gE hg HB; replace HB := sB HB hb; clear hb hbox hg) | ((with_reducible refine gate_dst (N := 3) rfl ?_); refine bE (N := 3) (cs := #[.int .i64 a1_0, .int .i64 a1_1]) (t := 35) ?_; intro gb102 hg w5 hbox hb; have BK102 := aM (hbox); have GW102 := gE hg HB; have GE102 := gE hg HB; have NB101_102 := nL hg BK101; replace BK101 := bB BK101 hb; replace HB := sB HB hb; clear hb hbox hg; have hnb6 := NB101_102.out; have hnc6 := NB101_102.out.symm; obtain ⟨hcz7_0, hcz7_1, hfz7_0, hfz7_1⟩ := cZ2 BK101; obtain ⟨hcz8_0, hcz8_1, hfz8_0, hfz8_1⟩ := cZ2 BK102))
  go_ret
  exact ⟨by first | rfl | (simp [errW_none, errW_some] <;> rfl) | (simp [*, errW_none, errW_some] <;> rfl), sD HB⟩
 rw [if_neg c3] at H
 have c3b0 : (a0_0 == a1_0 && (a0_1 == a1_1)) = false := by simpa using c3
 (try (have c3b1 : decide (a0_0 = a1_0 && (a0_1 == a1_1)) = false := by simpa using c3))
 (try (have c3b2 : (a0_0 == a1_0 && (a0_1 == a1_1)) = false := by simpa using c3))
 (try (have c3b3 : ¬ (a0_0 = a1_0 && (a0_1 == a1_1)) := by simpa using c3))
 clear c3; replace H := Option.bind_eq_some_iff.mp H
 obtain ⟨⟨t103, t104, t105⟩, A90, H⟩ := H
 replace H : ((rat_times.f a0_0 a1_1).bind fun bt107 => ((rat_wide_plus.f bt107.1 bt107.2.1 bt107.2.2 (!t103) t104 t105).bind fun bt110 => (if bt110.1 = true then (some (-1)) else (some 1)))) = some r := H
 have A9 := aM A90; clear A90; replace H := Option.bind_eq_some_iff.mp H
 obtain ⟨⟨t107, t108, t109⟩, A100, H⟩ := H
 replace H : ((rat_wide_plus.f t107 t108 t109 (!t103) t104 t105).bind fun bt110 => (if bt110.1 = true then (some (-1)) else (some 1))) = some r := H
 have A10 := aM A100; clear A100; replace H := Option.bind_eq_some_iff.mp H
 obtain ⟨⟨t110, t111, t112⟩, A110, H⟩ := H
 replace H : (if t110 = true then (some (-1)) else (some 1)) = some r := H
 have A11 := aM A110; clear A110
 by_cases c12 : t110 = true
 ·subst c12
  have H1 : (some (-1)) = some r := by rw [if_pos rfl] at H; exact H
  clear H; have H := H1; clear H1
  obtain rfl := Option.some.inj H
  go_enter Try.func47, Try.ntmps47
  try go_wp2_with (first | ((with_reducible refine gate_dst (N := 2) rfl ?_); refine bE (N := 2) (cs := #[.int .i64 a0_0, .int .i64 a0_1]) (t := 35) ?_; intro gb101 hg w13 hbox hb; have BK101 := aM (hbox); have GW101 := gE hg HB; have GE101 := gE hg HB; replace HB := sB HB hb; clear hb hbox hg) | ((with_reducible refine gate_dst (N := 3) rfl ?_); refine bE (N := 3) (cs := #[.int .i64 a1_0, .int .i64 a1_1]) (t := 35) ?_; intro gb102 hg w14 hbox hb; have BK102 := aM (hbox); have GW102 := gE hg HB; have GE102 := gE hg HB; have NB101_102 := nL hg BK101; replace BK101 := bB BK101 hb; replace HB := sB HB hb; clear hb hbox hg; have hnb15 := NB101_102.out; have hnc15 := NB101_102.out.symm; obtain ⟨hcz16_0, hcz16_1, hfz16_0, hfz16_1⟩ := cZ2 BK101; obtain ⟨hcz17_0, hcz17_1, hfz17_0, hfz17_1⟩ := cZ2 BK102) | ((with_reducible refine gate_callee (f := 73) rfl ?_); refine gL (some 13) Try.func73 #[.int .i64 a1_0, .int .i64 a0_1] ?_; (with_reducible refine (rat_times.calls a1_0 a0_1 t103 t104 t105 _ A9.out).mono ?_); rintro e w18 ⟨rfl, hb⟩; refine ⟨_, rfl, ?_⟩; replace BK101 := bB BK101 hb; replace BK102 := bB BK102 hb; replace HB := sB HB hb; (try clear hb)) | ((with_reducible refine gate_dst (N := 5) rfl ?_); refine bE (N := 5) (cs := #[.bool false, .int .u64 0, .int .u64 0]) (t := 123) ?_; intro gb106 hg w19 hbox hb; have BK106 := aM (hbox); have GW106 := gE hg HB; have GE106 := gE hg HB; have NB101_106 := nL hg BK101; have NB102_106 := nL hg BK102; replace BK101 := bB BK101 hb; replace BK102 := bB BK102 hb; replace HB := sB HB hb; clear hb hbox hg; have hnb20 := NB101_106.out.symm; have hnc20 := NB101_106.out; have hnb21 := NB102_106.out.symm; have hnc21 := NB102_106.out; obtain ⟨hcz22_0, hcz22_1, hcz22_2, hfz22_0, hfz22_1, hfz22_2⟩ := cZ3 BK106))
  have n0_ : Aside0 (((((w19.setCell ⟨gb106, 0, none⟩ (.bool t103)).setCell ⟨gb106, 1, none⟩ (.int .u64 t104)).setCell ⟨gb106, 2, none⟩ (.int .u64 t105)).setCell ⟨gb106, 0, none⟩ (.bool (!t103))).heap[gb101]? = some (.cells #[.int .i64 a0_0, .int .i64 a0_1] 35 (0, 0))) := ⟨bF BK101⟩
  have n1_ : Aside0 (((((w19.setCell ⟨gb106, 0, none⟩ (.bool t103)).setCell ⟨gb106, 1, none⟩ (.int .u64 t104)).setCell ⟨gb106, 2, none⟩ (.int .u64 t105)).setCell ⟨gb106, 0, none⟩ (.bool (!t103))).heap[gb102]? = some (.cells #[.int .i64 a1_0, .int .i64 a1_1] 35 (0, 0))) := ⟨bF BK102⟩
  have n2_ : Aside0 (((((w19.setCell ⟨gb106, 0, none⟩ (.bool t103)).setCell ⟨gb106, 1, none⟩ (.int .u64 t104)).setCell ⟨gb106, 2, none⟩ (.int .u64 t105)).setCell ⟨gb106, 0, none⟩ (.bool (!t103))).heap[gb106]? = some (.cells #[.bool (!t103), .int .u64 t104, .int .u64 t105] 123 (0, 0))) := ⟨by refine bM ?_; refine blk_put (cs := #[.bool t103, .int .u64 t104, .int .u64 t105]) ?_ 0 _ rfl; refine bM ?_; refine blk_put (cs := #[.bool t103, .int .u64 t104, .int .u64 0]) ?_ 2 _ rfl; refine bM ?_; refine blk_put (cs := #[.bool t103, .int .u64 0, .int .u64 0]) ?_ 1 _ rfl; refine bM ?_; refine blk_put (cs := #[.bool false, .int .u64 0, .int .u64 0]) ?_ 0 _ rfl; exact bD BK106⟩
  have n3_ : Aside0 (Below w.heap.size w ((((w19.setCell ⟨gb106, 0, none⟩ (.bool t103)).setCell ⟨gb106, 1, none⟩ (.int .u64 t104)).setCell ⟨gb106, 2, none⟩ (.int .u64 t105)).setCell ⟨gb106, 0, none⟩ (.bool (!t103)))) := ⟨sD HB⟩
  (try clear BK101); (try clear BK102); (try clear BK106); (try clear HB)
  generalize ((((w19.setCell ⟨gb106, 0, none⟩ (.bool t103)).setCell ⟨gb106, 1, none⟩ (.int .u64 t104)).setCell ⟨gb106, 2, none⟩ (.int .u64 t105)).setCell ⟨gb106, 0, none⟩ (.bool (!t103))) = w23 at n0_ n1_ n2_ n3_ ⊢
  have BK101 := n0_; have BK102 := n1_; have BK106 := n2_; have HB := n3_; clear n0_ n1_ n2_ n3_; replace BK101 := aM (blk_drew BK101.out); replace BK102 := aM (blk_drew BK102.out); replace BK106 := aM (blk_drew BK106.out); replace HB := aM (below_drew1 HB.out)
  refine start_ (n := 8) (S := fun w' => w'.cell? ⟨gb101, 0, none⟩ = some (.int .i64 a0_0) ∧ w'.cell? ⟨gb101, 1, none⟩ = some (.int .i64 a0_1) ∧ w'.cell? ⟨gb102, 0, none⟩ = some (.int .i64 a1_0) ∧ w'.cell? ⟨gb102, 1, none⟩ = some (.int .i64 a1_1) ∧ w'.cell? ⟨gb106, 0, none⟩ = some (.bool (!t103)) ∧ w'.cell? ⟨gb106, 1, none⟩ = some (.int .u64 t104) ∧ w'.cell? ⟨gb106, 2, none⟩ = some (.int .u64 t105)) (ds := []) #[false, false, false, false, false, false, false, false] (by kernel_rfl) rfl rfl ⟨cE BK101 0, cE BK101 1, cE BK102 0, cE BK102 1, cE BK106 0, cE BK106 1, cE BK106 2⟩ (fun hHeld => ?_); refine with_tabW rat_Cmp.tab5 rat_Cmp.bits5 (fun HT_ HW_ => ?_)
  generalize w23.drew = w24 at BK101 BK102 BK106 HB hHeld ⊢
  refine pX (i := 0) (N := some 18) rfl rfl HT_ ?_
  refine pX (i := 2) (N := some 20) rfl rfl HT_ ?_
  refine tX (i := 1) (N := some 19) rfl rfl HT_ HW_ hHeld (Or.inl ⟨by rfl, by rintro w' ⟨s0, s1, s2, s3, s4, s5, s6⟩; go_simp; with_reducible rfl⟩) ?_
  refine tX (i := 3) (N := some 21) rfl rfl HT_ HW_ hHeld (Or.inl ⟨by rfl, by rintro w' ⟨s0, s1, s2, s3, s4, s5, s6⟩; go_simp; with_reducible rfl⟩) ?_
  refine tX (i := 5) (N := some 23) rfl rfl HT_ HW_ hHeld (Or.inl ⟨by rfl, by rintro w' ⟨s0, s1, s2, s3, s4, s5, s6⟩; go_simp; with_reducible rfl⟩) ?_
  refine oX (i := 4) (N := some 22) rfl rfl HT_ (fun K hK => ?_)
  refine gS Try.func73 #[.int .i64 a0_0, .int .i64 a1_1] ?_
  with_reducible refine (rat_times.calls a0_0 a1_1 t107 t108 t109 _ A10.out).mono ?_
  rintro e w25 ⟨rfl, hb⟩
  refine ⟨_, rfl, ?_⟩
  replace BK101 := bB BK101 hb; replace BK102 := bB BK102 hb; replace BK106 := bB BK106 hb; replace HB := sB HB hb; (try clear hb); (try clear hb2); (try clear hk); (try clear hi)
  refine hK.out _ _ ⟨cE BK101 0, cE BK101 1, cE BK102 0, cE BK102 1, cE BK106 0, cE BK106 1, cE BK106 2⟩ (fun hHeld => ?_)
  clear hK K
  refine nX (some 22) ?_
  refine oX (i := 6) (N := some 24) rfl rfl HT_ (fun K hK => ?_)
  refine gS Try.func74 #[.agg #[.bool t107, .int .u64 t108, .int .u64 t109], .agg #[.bool (!t103), .int .u64 t104, .int .u64 t105]] ?_
  with_reducible refine (rat_wide_plus.calls t107 t108 t109 (!t103) t104 t105 true t111 t112 _ A11.out).mono ?_
  rintro e w26 ⟨rfl, hb⟩
  refine ⟨_, rfl, ?_⟩
  replace BK101 := bB BK101 hb; replace BK102 := bB BK102 hb; replace BK106 := bB BK106 hb; replace HB := sB HB hb; (try clear hb); (try clear hb2); (try clear hk); (try clear hi)
  refine hK.out _ _ ⟨cE BK101 0, cE BK101 1, cE BK102 0, cE BK102 1, cE BK106 0, cE BK106 1, cE BK106 2⟩ (fun hHeld => ?_)
  clear hK K
  refine nX (some 24) ?_
  refine pX (i := 7) (N := some 25) rfl rfl HT_ ?_
  refine done_ (done_of HT_.out (by kernel_rfl)) ?_
  try go_wp2
  go_ret
  exact ⟨by first | rfl | (simp [errW_none, errW_some] <;> rfl) | (simp [*, errW_none, errW_some] <;> rfl), sD HB⟩
 replace c12 := Bool.eq_false_iff.mpr c12
 subst c12
 have H1 : (some 1) = some r := by rw [if_neg (show ¬ (false = true) by decide)] at H; exact H
 clear H; have H := H1; clear H1
 obtain rfl := Option.some.inj H
 go_enter Try.func47, Try.ntmps47
 try go_wp2_with (first | ((with_reducible refine gate_dst (N := 2) rfl ?_); refine bE (N := 2) (cs := #[.int .i64 a0_0, .int .i64 a0_1]) (t := 35) ?_; intro gb101 hg w27 hbox hb; have BK101 := aM (hbox); have GW101 := gE hg HB; have GE101 := gE hg HB; replace HB := sB HB hb; clear hb hbox hg) | ((with_reducible refine gate_dst (N := 3) rfl ?_); refine bE (N := 3) (cs := #[.int .i64 a1_0, .int .i64 a1_1]) (t := 35) ?_; intro gb102 hg w28 hbox hb; have BK102 := aM (hbox); have GW102 := gE hg HB; have GE102 := gE hg HB; have NB101_102 := nL hg BK101; replace BK101 := bB BK101 hb; replace HB := sB HB hb; clear hb hbox hg; have hnb29 := NB101_102.out; have hnc29 := NB101_102.out.symm; obtain ⟨hcz30_0, hcz30_1, hfz30_0, hfz30_1⟩ := cZ2 BK101; obtain ⟨hcz31_0, hcz31_1, hfz31_0, hfz31_1⟩ := cZ2 BK102) | ((with_reducible refine gate_callee (f := 73) rfl ?_); refine gL (some 13) Try.func73 #[.int .i64 a1_0, .int .i64 a0_1] ?_; (with_reducible refine (rat_times.calls a1_0 a0_1 t103 t104 t105 _ A9.out).mono ?_); rintro e w32 ⟨rfl, hb⟩; refine ⟨_, rfl, ?_⟩; replace BK101 := bB BK101 hb; replace BK102 := bB BK102 hb; replace HB := sB HB hb; (try clear hb)) | ((with_reducible refine gate_dst (N := 5) rfl ?_); refine bE (N := 5) (cs := #[.bool false, .int .u64 0, .int .u64 0]) (t := 123) ?_; intro gb106 hg w33 hbox hb; have BK106 := aM (hbox); have GW106 := gE hg HB; have GE106 := gE hg HB; have NB101_106 := nL hg BK101; have NB102_106 := nL hg BK102; replace BK101 := bB BK101 hb; replace BK102 := bB BK102 hb; replace HB := sB HB hb; clear hb hbox hg; have hnb34 := NB101_106.out.symm; have hnc34 := NB101_106.out; have hnb35 := NB102_106.out.symm; have hnc35 := NB102_106.out; obtain ⟨hcz36_0, hcz36_1, hcz36_2, hfz36_0, hfz36_1, hfz36_2⟩ := cZ3 BK106))
 have n0_ : Aside0 (((((w33.setCell ⟨gb106, 0, none⟩ (.bool t103)).setCell ⟨gb106, 1, none⟩ (.int .u64 t104)).setCell ⟨gb106, 2, none⟩ (.int .u64 t105)).setCell ⟨gb106, 0, none⟩ (.bool (!t103))).heap[gb101]? = some (.cells #[.int .i64 a0_0, .int .i64 a0_1] 35 (0, 0))) := ⟨bF BK101⟩
 have n1_ : Aside0 (((((w33.setCell ⟨gb106, 0, none⟩ (.bool t103)).setCell ⟨gb106, 1, none⟩ (.int .u64 t104)).setCell ⟨gb106, 2, none⟩ (.int .u64 t105)).setCell ⟨gb106, 0, none⟩ (.bool (!t103))).heap[gb102]? = some (.cells #[.int .i64 a1_0, .int .i64 a1_1] 35 (0, 0))) := ⟨bF BK102⟩
 have n2_ : Aside0 (((((w33.setCell ⟨gb106, 0, none⟩ (.bool t103)).setCell ⟨gb106, 1, none⟩ (.int .u64 t104)).setCell ⟨gb106, 2, none⟩ (.int .u64 t105)).setCell ⟨gb106, 0, none⟩ (.bool (!t103))).heap[gb106]? = some (.cells #[.bool (!t103), .int .u64 t104, .int .u64 t105] 123 (0, 0))) := ⟨by refine bM ?_; refine blk_put (cs := #[.bool t103, .int .u64 t104, .int .u64 t105]) ?_ 0 _ rfl; refine bM ?_; refine blk_put (cs := #[.bool t103, .int .u64 t104, .int .u64 0]) ?_ 2 _ rfl; refine bM ?_; refine blk_put (cs := #[.bool t103, .int .u64 0, .int .u64 0]) ?_ 1 _ rfl; refine bM ?_; refine blk_put (cs := #[.bool false, .int .u64 0, .int .u64 0]) ?_ 0 _ rfl; exact bD BK106⟩
 have n3_ : Aside0 (Below w.heap.size w ((((w33.setCell ⟨gb106, 0, none⟩ (.bool t103)).setCell ⟨gb106, 1, none⟩ (.int .u64 t104)).setCell ⟨gb106, 2, none⟩ (.int .u64 t105)).setCell ⟨gb106, 0, none⟩ (.bool (!t103)))) := ⟨sD HB⟩
 (try clear BK101); (try clear BK102); (try clear BK106); (try clear HB)
 generalize ((((w33.setCell ⟨gb106, 0, none⟩ (.bool t103)).setCell ⟨gb106, 1, none⟩ (.int .u64 t104)).setCell ⟨gb106, 2, none⟩ (.int .u64 t105)).setCell ⟨gb106, 0, none⟩ (.bool (!t103))) = w37 at n0_ n1_ n2_ n3_ ⊢
 have BK101 := n0_; have BK102 := n1_; have BK106 := n2_; have HB := n3_; clear n0_ n1_ n2_ n3_; replace BK101 := aM (blk_drew BK101.out); replace BK102 := aM (blk_drew BK102.out); replace BK106 := aM (blk_drew BK106.out); replace HB := aM (below_drew1 HB.out)
 refine start_ (n := 8) (S := fun w' => w'.cell? ⟨gb101, 0, none⟩ = some (.int .i64 a0_0) ∧ w'.cell? ⟨gb101, 1, none⟩ = some (.int .i64 a0_1) ∧ w'.cell? ⟨gb102, 0, none⟩ = some (.int .i64 a1_0) ∧ w'.cell? ⟨gb102, 1, none⟩ = some (.int .i64 a1_1) ∧ w'.cell? ⟨gb106, 0, none⟩ = some (.bool (!t103)) ∧ w'.cell? ⟨gb106, 1, none⟩ = some (.int .u64 t104) ∧ w'.cell? ⟨gb106, 2, none⟩ = some (.int .u64 t105)) (ds := []) #[false, false, false, false, false, false, false, false] (by kernel_rfl) rfl rfl ⟨cE BK101 0, cE BK101 1, cE BK102 0, cE BK102 1, cE BK106 0, cE BK106 1, cE BK106 2⟩ (fun hHeld => ?_); refine with_tabW rat_Cmp.tab5 rat_Cmp.bits5 (fun HT_ HW_ => ?_)
 generalize w37.drew = w38 at BK101 BK102 BK106 HB hHeld ⊢
 refine pX (i := 0) (N := some 18) rfl rfl HT_ ?_
 refine pX (i := 2) (N := some 20) rfl rfl HT_ ?_
 refine tX (i := 1) (N := some 19) rfl rfl HT_ HW_ hHeld (Or.inl ⟨by rfl, by rintro w' ⟨s0, s1, s2, s3, s4, s5, s6⟩; go_simp; with_reducible rfl⟩) ?_
 refine tX (i := 3) (N := some 21) rfl rfl HT_ HW_ hHeld (Or.inl ⟨by rfl, by rintro w' ⟨s0, s1, s2, s3, s4, s5, s6⟩; go_simp; with_reducible rfl⟩) ?_
 refine tX (i := 5) (N := some 23) rfl rfl HT_ HW_ hHeld (Or.inl ⟨by rfl, by rintro w' ⟨s0, s1, s2, s3, s4, s5, s6⟩; go_simp; with_reducible rfl⟩) ?_
 refine oX (i := 4) (N := some 22) rfl rfl HT_ (fun K hK => ?_)
 refine gS Try.func73 #[.int .i64 a0_0, .int .i64 a1_1] ?_
 with_reducible refine (rat_times.calls a0_0 a1_1 t107 t108 t109 _ A10.out).mono ?_
 rintro e w39 ⟨rfl, hb⟩
 refine ⟨_, rfl, ?_⟩
 replace BK101 := bB BK101 hb; replace BK102 := bB BK102 hb; replace BK106 := bB BK106 hb; replace HB := sB HB hb; (try clear hb); (try clear hb2); (try clear hk); (try clear hi)
 refine hK.out _ _ ⟨cE BK101 0, cE BK101 1, cE BK102 0, cE BK102 1, cE BK106 0, cE BK106 1, cE BK106 2⟩ (fun hHeld => ?_)
 clear hK K
 refine nX (some 22) ?_
 refine oX (i := 6) (N := some 24) rfl rfl HT_ (fun K hK => ?_)
 refine gS Try.func74 #[.agg #[.bool t107, .int .u64 t108, .int .u64 t109], .agg #[.bool (!t103), .int .u64 t104, .int .u64 t105]] ?_
 with_reducible refine (rat_wide_plus.calls t107 t108 t109 (!t103) t104 t105 false t111 t112 _ A11.out).mono ?_
 rintro e w40 ⟨rfl, hb⟩
 refine ⟨_, rfl, ?_⟩
 replace BK101 := bB BK101 hb; replace BK102 := bB BK102 hb; replace BK106 := bB BK106 hb; replace HB := sB HB hb; (try clear hb); (try clear hb2); (try clear hk); (try clear hi)
 refine hK.out _ _ ⟨cE BK101 0, cE BK101 1, cE BK102 0, cE BK102 1, cE BK106 0, cE BK106 1, cE BK106 2⟩ (fun hHeld => ?_)
 clear hK K
 refine nX (some 24) ?_
 refine pX (i := 7) (N := some 25) rfl rfl HT_ ?_
 refine done_ (done_of HT_.out (by kernel_rfl)) ?_
 try go_wp2
 go_ret
 exact ⟨by first | rfl | (simp [errW_none, errW_some] <;> rfl) | (simp [*, errW_none, errW_some] <;> rfl), sD HB⟩
end Go.Proofs.Ytohnkcmbogcfhaa.P
namespace Go.Proofs.Ytohnkcmbogcfhaa.P
open Go.Proofs.YtohnkcmbogcfhaaH Go.RowKit Go.Proofs.YtohnkcmbogcfhaaW.PrintWords Go.Proofs.YtohnkcmbogcfhaaW.PrintLast Go.Proofs.YtohnkcmbogcfhaaW.PrintMore
attribute [local go_sem] max2_int min2_int max_two min_two max_three min_three max_four min_four   -- for this text's walks alone
attribute [local go_sem] Go.Proofs.YtohnkcmbogcfhaaH.cell_set_map
def rat_Min.f (a0_0 : Int) (a0_1 : Int) (a1_0 : Int) (a1_1 : Int) : Option (Int × Int) := (rat_Cmp.f a1_0 a1_1 a0_0 a0_1).bind fun t104 => (if t104 < 0 then (some (a1_0, a1_1)) else (some (a0_0, a0_1)))
set_option maxHeartbeats 40000000 in
set_option maxRecDepth 100000 in
theorem rat_Min.calls (a0_0 : Int) (a0_1 : Int) (a1_0 : Int) (a1_1 : Int) (r1 : Int) (r2 : Int) (w : World) (h : rat_Min.f a0_0 a0_1 a1_0 a1_1 = some (r1, r2)) :
  Calls Try.prog 52 #[.agg #[.int .i64 a0_0, .int .i64 a0_1], .agg #[.int .i64 a1_0, .int .i64 a1_1]] w fun e w' => e = .returned (.agg #[.int .i64 r1, .int .i64 r2]) ∧ Below w.heap.size w w' := by
 have hu35 := Try.underlying35; have HB := aM (Below.refl w.heap.size w)
 have H : ((rat_Cmp.f a1_0 a1_1 a0_0 a0_1).bind fun t104 => (if t104 < 0 then (some (a1_0, a1_1)) else (some (a0_0, a0_1)))) = some (r1, r2) := h
 clear h; replace H := Option.bind_eq_some_iff.mp H
 obtain ⟨t104, A30, H⟩ := H
 replace H : (if t104 < 0 then (some (a1_0, a1_1)) else (some (a0_0, a0_1))) = some (r1, r2) := H
 have A3 := aM A30; clear A30
 by_cases c4 : t104 < 0
 ·rw [if_pos c4] at H
  have c4b0 : decide (t104 < 0) = true := decide_eq_true c4
  clear c4
  simp only [Option.some.injEq, Prod.mk.injEq] at H
  obtain ⟨rfl, rfl⟩ := H
  go_enter Try.func52, Try.ntmps52
  go_wp2_with (first | ((with_reducible refine gate_dst (N := 2) rfl ?_); refine bE (N := 2) (cs := #[.int .i64 a0_0, .int .i64 a0_1]) (t := 35) ?_; intro gb101 hg w5 hbox hb; have BK101 := aM (hbox); have GW101 := gE hg HB; have GE101 := gE hg HB; replace HB := sB HB hb; clear hb hbox hg) | ((with_reducible refine gate_dst (N := 3) rfl ?_); refine bE (N := 3) (cs := #[.int .i64 a1_0, .int .i64 a1_1]) (t := 35) ?_; intro gb102 hg w6 hbox hb; have BK102 := aM (hbox); have GW102 := gE hg HB; have GE102 := gE hg HB; have NB101_102 := nL hg BK101; replace BK101 := bB BK101 hb; replace HB := sB HB hb; clear hb hbox hg) | ((with_reducible refine gate_dst (N := 4) rfl ?_); refine bE (N := 4) (cs := #[.int .i64 0, .int .i64 0]) (t := 35) ?_; intro gb103 hg w7 hbox hb; have BK103 := aM (hbox); have GW103 := gE hg HB; have GE103 := gE hg HB; have NB101_103 := nL hg BK101; have NB102_103 := nL hg BK102; replace BK101 := bB BK101 hb; replace BK102 := bB BK102 hb; replace HB := sB HB hb; clear hb hbox hg; have hnb8 := NB101_102.out.symm; have hnc8 := NB101_102.out; have hnb9 := NB102_103.out; have hnc9 := NB102_103.out.symm; obtain ⟨hcz10_0, hcz10_1, hfz10_0, hfz10_1⟩ := cZ2 BK102; have hnb11 := NB101_103.out; have hnc11 := NB101_103.out.symm; obtain ⟨hcz12_0, hcz12_1, hfz12_0, hfz12_1⟩ := cZ2 BK101) | ((with_reducible refine gate_callee (f := 47) rfl ?_); refine gL (some 7) Try.func47 #[.agg #[.int .i64 a1_0, .int .i64 a1_1], .agg #[.int .i64 a0_0, .int .i64 a0_1]] ?_; (with_reducible refine (rat_Cmp.calls a1_0 a1_1 a0_0 a0_1 t104 _ A3.out).mono ?_); rintro e w13 ⟨rfl, hb⟩; refine ⟨_, rfl, ?_⟩; replace BK101 := bB BK101 hb; replace BK102 := bB BK102 hb; replace BK103 := bB BK103 hb; replace HB := sB HB hb; (try clear hb); obtain ⟨hcz14_0, hcz14_1, hfz14_0, hfz14_1⟩ := cZ2 BK102; obtain ⟨hcz15_0, hcz15_1, hfz15_0, hfz15_1⟩ := cZ2 BK103))
  refine bodyPost_ret (results_cell_row rfl _ _ gb103 35 #[.int .i64 a1_0, .int .i64 a1_1] (0, 0) _ rfl (by refine bM ?_; refine blk_put (cs := #[.int .i64 a1_0, .int .i64 0]) ?_ 1 _ rfl; refine bM ?_; refine blk_put (cs := #[.int .i64 0, .int .i64 0]) ?_ 0 _ rfl; exact bD BK103) Try.underlying35 rfl (by kernel_rfl)) rfl ?_
  exact ⟨by first | rfl | (simp [errW_none, errW_some] <;> rfl) | (simp [*, errW_none, errW_some] <;> rfl), sD HB⟩
 rw [if_neg c4] at H
 have c4b0 : decide (t104 < 0) = false := decide_eq_false c4
 clear c4
 simp only [Option.some.injEq, Prod.mk.injEq] at H
 obtain ⟨rfl, rfl⟩ := H
 go_enter Try.func52, Try.ntmps52
 go_wp2_with (first | ((with_reducible refine gate_dst (N := 2) rfl ?_); refine bE (N := 2) (cs := #[.int .i64 a0_0, .int .i64 a0_1]) (t := 35) ?_; intro gb101 hg w16 hbox hb; have BK101 := aM (hbox); have GW101 := gE hg HB; have GE101 := gE hg HB; replace HB := sB HB hb; clear hb hbox hg) | ((with_reducible refine gate_dst (N := 3) rfl ?_); refine bE (N := 3) (cs := #[.int .i64 a1_0, .int .i64 a1_1]) (t := 35) ?_; intro gb102 hg w17 hbox hb; have BK102 := aM (hbox); have GW102 := gE hg HB; have GE102 := gE hg HB; have NB101_102 := nL hg BK101; replace BK101 := bB BK101 hb; replace HB := sB HB hb; clear hb hbox hg) | ((with_reducible refine gate_dst (N := 4) rfl ?_); refine bE (N := 4) (cs := #[.int .i64 0, .int .i64 0]) (t := 35) ?_; intro gb103 hg w18 hbox hb; have BK103 := aM (hbox); have GW103 := gE hg HB; have GE103 := gE hg HB; have NB101_103 := nL hg BK101; have NB102_103 := nL hg BK102; replace BK101 := bB BK101 hb; replace BK102 := bB BK102 hb; replace HB := sB HB hb; clear hb hbox hg; have hnb19 := NB101_102.out.symm; have hnc19 := NB101_102.out; have hnb20 := NB102_103.out; have hnc20 := NB102_103.out.symm; obtain ⟨hcz21_0, hcz21_1, hfz21_0, hfz21_1⟩ := cZ2 BK102; have hnb22 := NB101_103.out; have hnc22 := NB101_103.out.symm; obtain ⟨hcz23_0, hcz23_1, hfz23_0, hfz23_1⟩ := cZ2 BK101) | ((with_reducible refine gate_callee (f := 47) rfl ?_); refine gL (some 7) Try.func47 #[.agg #[.int .i64 a1_0, .int .i64 a1_1], .agg #[.int .i64 a0_0, .int .i64 a0_1]] ?_; (with_reducible refine (rat_Cmp.calls a1_0 a1_1 a0_0 a0_1 t104 _ A3.out).mono ?_); rintro e w24 ⟨rfl, hb⟩; refine ⟨_, rfl, ?_⟩; replace BK101 := bB BK101 hb; replace BK102 := bB BK102 hb; replace BK103 := bB BK103 hb; replace HB := sB HB hb; (try clear hb); obtain ⟨hcz25_0, hcz25_1, hfz25_0, hfz25_1⟩ := cZ2 BK101; obtain ⟨hcz26_0, hcz26_1, hfz26_0, hfz26_1⟩ := cZ2 BK103))
 refine bodyPost_ret (results_cell_row rfl _ _ gb103 35 #[.int .i64 a0_0, .int .i64 a0_1] (0, 0) _ rfl (by refine bM ?_; refine blk_put (cs := #[.int .i64 a0_0, .int .i64 0]) ?_ 1 _ rfl; refine bM ?_; refine blk_put (cs := #[.int .i64 0, .int .i64 0]) ?_ 0 _ rfl; exact bD BK103) Try.underlying35 rfl (by kernel_rfl)) rfl ?_
 exact ⟨by first | rfl | (simp [errW_none, errW_some] <;> rfl) | (simp [*, errW_none, errW_some] <;> rfl), sD HB⟩
end Go.Proofs.Ytohnkcmbogcfhaa.P

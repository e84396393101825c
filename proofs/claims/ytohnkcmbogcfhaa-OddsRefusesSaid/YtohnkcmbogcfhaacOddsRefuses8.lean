/- A part of the claim OddsRefuses: lemmas, printed functions with their contracts, plain laws. -/
import Derived.Test.YtohnkcmbogcfhaacOddsRefuses7
set_option linter.unusedVariables false
set_option linter.unusedSimpArgs false
namespace Go.Proofs.Ytohnkcmbogcfhaa.P
open Go.RowKit Go.Proofs.YtohnkcmbogcfhaaW.PrintWords Go.Proofs.YtohnkcmbogcfhaaW.PrintLast Go.Proofs.YtohnkcmbogcfhaaW.PrintMore
attribute [local go_sem] max2_int min2_int max_two min_two max_three min_three max_four min_four   -- for this text's walks alone
attribute [local go_sem] Go.Proofs.YtohnkcmbogcfhaaH.cell_set_map
mutual
def parolelaw37_OddsRefuses.j0 : Nat → Bool → Bool → Option (Bool)
 | 0, _, _ => none
 | k + 1, x7, x68 => if x68 = true then (some false) else (parolelaw37_OddsRefuses.l0 k x7 (([(([(⟨5, 0, 0⟩ : S71), (⟨5, 0, 0⟩ : S71)] : List (S71))), (([(⟨6, 0, 0⟩ : S71), (⟨5, 0, 0⟩ : S71)] : List (S71))), (([(⟨5, (-1), 0⟩ : S71)] : List (S71))), (([(⟨5, 0, 1073741825⟩ : S71)] : List (S71))), (([(⟨0, 0, 0⟩ : S71)] : List (S71)))] : List (List (S71)))) 0)
def parolelaw37_OddsRefuses.l0 : Nat → Bool → List (List (S71)) → Int → Option (Bool)
 | 0, _, _, _ => none
 | k + 1, x7, x13, x14 => if x14 < (x13.length : Int) then (if 0 ≤ x14 then ((odds_Right.f k (rd_L4 x13 x14)).bind fun t143 => (if t143 = 1 then (parolelaw37_OddsRefuses.l0 k x7 x13 (wrap64 (x14 + 1))) else (some false))) else (none)) else (some x7)
end
def parolelaw37_OddsRefuses.f (k : Nat) (a0 : Int) (a1 : Int) (a2 : Int) : Option (Bool) := (parolelaw37_examples.f k).bind fun t101 => (if t101 = true then ((parolelaw37_learned.f k ([] : List (S71)) a0 true).bind fun bt102 => ((parolelaw37_loss.f k ([] : List (S71)) 3 a1).bind fun bt107 => ((some (([(⟨5, wrap64 (1073741824 - (wrap64 (Int.tmod a2 2))), 0⟩ : S71)] : List (S71)) : List (S71))).bind fun y111 => ((parolelaw37_learned.f k y111 5 true).bind fun bt114 => ((parolelaw37_joined.f k y111 y111).bind fun bt118 => (if a0 < 1 then (if ((bt102.2 == 1) != true) = true then (parolelaw37_OddsRefuses.j0 k t101 true) else (if a1 < 0 then (if ((bt107.2.2 == 1) != true) = true then (parolelaw37_OddsRefuses.j0 k t101 true) else (if ((bt114.2 == 2) != ((Int.tmod a2 2) == 0)) = true then (parolelaw37_OddsRefuses.j0 k t101 true) else (parolelaw37_OddsRefuses.j0 k t101 (bt118.2 != 2)))) else (if ((bt107.2.2 == 1) != (decide (a1 > 1073741824))) = true then (parolelaw37_OddsRefuses.j0 k t101 true) else (if ((bt114.2 == 2) != ((Int.tmod a2 2) == 0)) = true then (parolelaw37_OddsRefuses.j0 k t101 true) else (parolelaw37_OddsRefuses.j0 k t101 (bt118.2 != 2)))))) else (if ((bt102.2 == 1) != (decide (a0 > 14))) = true then (parolelaw37_OddsRefuses.j0 k t101 true) else (if a1 < 0 then (if ((bt107.2.2 == 1) != true) = true then (parolelaw37_OddsRefuses.j0 k t101 true) else (if ((bt114.2 == 2) != ((Int.tmod a2 2) == 0)) = true then (parolelaw37_OddsRefuses.j0 k t101 true) else (parolelaw37_OddsRefuses.j0 k t101 (bt118.2 != 2)))) else (if ((bt107.2.2 == 1) != (decide (a1 > 1073741824))) = true then (parolelaw37_OddsRefuses.j0 k t101 true) else (if ((bt114.2 == 2) != ((Int.tmod a2 2) == 0)) = true then (parolelaw37_OddsRefuses.j0 k t101 true) else (parolelaw37_OddsRefuses.j0 k t101 (bt118.2 != 2)))))))))))) else (some false))
theorem parolelaw37_OddsRefuses.mono_l : ∀ k, (∀ y0 y1, LeO (parolelaw37_OddsRefuses.j0 k y0 y1) (parolelaw37_OddsRefuses.j0 (k + 1) y0 y1)) ∧ (∀ y0 y1 y2, LeO (parolelaw37_OddsRefuses.l0 k y0 y1 y2) (parolelaw37_OddsRefuses.l0 (k + 1) y0 y1 y2))
 | 0 => ⟨fun _ _ r h => by simp [parolelaw37_OddsRefuses.j0] at h, fun _ _ _ r h => by simp [parolelaw37_OddsRefuses.l0] at h⟩
 | k + 1 => by
  obtain ⟨ih0, ih1⟩ := parolelaw37_OddsRefuses.mono_l k
  refine ⟨?_, ?_⟩
  ·intro y0 y1
   unfold parolelaw37_OddsRefuses.j0
   repeat' first
   | (with_reducible exact ih0 _ _)
   | (with_reducible exact ih1 _ _ _)
   | (with_reducible exact odds_Right.mono _ _)
   | (with_reducible exact parolelaw37_examples.mono _)
   | (with_reducible exact parolelaw37_joined.mono _ _ _)
   | (with_reducible exact parolelaw37_learned.mono _ _ _ _)
   | (with_reducible exact parolelaw37_loss.mono _ _ _ _)
   | (with_reducible exact LeO.refl _)
   | (with_reducible exact LeO.none _)
   | (with_reducible refine LeO.ite ?_ ?_)
   | (with_reducible refine LeO.bind ?_ (fun _ => ?_))
   | exact ih0 _ _
   | exact ih1 _ _ _
   | exact odds_Right.mono _ _
   | exact parolelaw37_examples.mono _
   | exact parolelaw37_joined.mono _ _ _
   | exact parolelaw37_learned.mono _ _ _ _
   | exact parolelaw37_loss.mono _ _ _ _
   | exact LeO.none _
   | refine LeO.ite ?_ ?_
   | refine LeO.bind ?_ (fun _ => ?_)
  ·intro y0 y1 y2
   unfold parolelaw37_OddsRefuses.l0
   repeat' first
   | (with_reducible exact ih0 _ _)
   | (with_reducible exact ih1 _ _ _)
   | (with_reducible exact odds_Right.mono _ _)
   | (with_reducible exact parolelaw37_examples.mono _)
   | (with_reducible exact parolelaw37_joined.mono _ _ _)
   | (with_reducible exact parolelaw37_learned.mono _ _ _ _)
   | (with_reducible exact parolelaw37_loss.mono _ _ _ _)
   | (with_reducible exact LeO.refl _)
   | (with_reducible exact LeO.none _)
   | (with_reducible refine LeO.ite ?_ ?_)
   | (with_reducible refine LeO.bind ?_ (fun _ => ?_))
   | exact ih0 _ _
   | exact ih1 _ _ _
   | exact odds_Right.mono _ _
   | exact parolelaw37_examples.mono _
   | exact parolelaw37_joined.mono _ _ _
   | exact parolelaw37_learned.mono _ _ _ _
   | exact parolelaw37_loss.mono _ _ _ _
   | exact LeO.none _
   | refine LeO.ite ?_ ?_
   | refine LeO.bind ?_ (fun _ => ?_)
theorem parolelaw37_OddsRefuses.mono : ∀ a0 a1 a2 k, LeO (parolelaw37_OddsRefuses.f k a0 a1 a2) (parolelaw37_OddsRefuses.f (k + 1) a0 a1 a2) := by
 intro a0 a1 a2 k
 obtain ⟨ih0, ih1⟩ := parolelaw37_OddsRefuses.mono_l k
 unfold parolelaw37_OddsRefuses.f
 repeat' first
   | (with_reducible exact ih0 _ _)
   | (with_reducible exact ih1 _ _ _)
   | (with_reducible exact odds_Right.mono _ _)
   | (with_reducible exact parolelaw37_examples.mono _)
   | (with_reducible exact parolelaw37_joined.mono _ _ _)
   | (with_reducible exact parolelaw37_learned.mono _ _ _ _)
   | (with_reducible exact parolelaw37_loss.mono _ _ _ _)
   | (with_reducible exact LeO.refl _)
   | (with_reducible exact LeO.none _)
   | (with_reducible refine LeO.ite ?_ ?_)
   | (with_reducible refine LeO.bind ?_ (fun _ => ?_))
   | exact ih0 _ _
   | exact ih1 _ _ _
   | exact odds_Right.mono _ _
   | exact parolelaw37_examples.mono _
   | exact parolelaw37_joined.mono _ _ _
   | exact parolelaw37_learned.mono _ _ _ _
   | exact parolelaw37_loss.mono _ _ _ _
   | exact LeO.none _
   | refine LeO.ite ?_ ?_
   | refine LeO.bind ?_ (fun _ => ?_)
set_option maxHeartbeats 8000000 in
set_option maxRecDepth 100000 in
theorem parolelaw37_OddsRefuses.calls (k : Nat) (a0 : Int) (a1 : Int) (a2 : Int) (r : Bool) (w : World) (h : parolelaw37_OddsRefuses.f k a0 a1 a2 = some r) :
  Calls Try.prog 6 #[.int .i64 a0, .int .i64 a1, .int .u8 a2] w fun e w' => e = .returned (.bool r) ∧ Below w.heap.size w w' := by
 have hu32 := Try.underlying32
 have hu38 := Try.underlying38
 have hu71 := Try.underlying71
 have HB := Aside0.mk (Below.refl w.heap.size w)
 have H : ((parolelaw37_examples.f k).bind fun t101 => (if t101 = true then ((parolelaw37_learned.f k ([] : List (S71)) a0 true).bind fun bt102 => ((parolelaw37_loss.f k ([] : List (S71)) 3 a1).bind fun bt107 => ((some (([(⟨5, wrap64 (1073741824 - (wrap64 (Int.tmod a2 2))), 0⟩ : S71)] : List (S71)) : List (S71))).bind fun y111 => ((parolelaw37_learned.f k y111 5 true).bind fun bt114 => ((parolelaw37_joined.f k y111 y111).bind fun bt118 => (if a0 < 1 then (if ((bt102.2 == 1) != true) = true then (parolelaw37_OddsRefuses.j0 k t101 true) else (if a1 < 0 then (if ((bt107.2.2 == 1) != true) = true then (parolelaw37_OddsRefuses.j0 k t101 true) else (if ((bt114.2 == 2) != ((Int.tmod a2 2) == 0)) = true then (parolelaw37_OddsRefuses.j0 k t101 true) else (parolelaw37_OddsRefuses.j0 k t101 (bt118.2 != 2)))) else (if ((bt107.2.2 == 1) != (decide (a1 > 1073741824))) = true then (parolelaw37_OddsRefuses.j0 k t101 true) else (if ((bt114.2 == 2) != ((Int.tmod a2 2) == 0)) = true then (parolelaw37_OddsRefuses.j0 k t101 true) else (parolelaw37_OddsRefuses.j0 k t101 (bt118.2 != 2)))))) else (if ((bt102.2 == 1) != (decide (a0 > 14))) = true then (parolelaw37_OddsRefuses.j0 k t101 true) else (if a1 < 0 then (if ((bt107.2.2 == 1) != true) = true then (parolelaw37_OddsRefuses.j0 k t101 true) else (if ((bt114.2 == 2) != ((Int.tmod a2 2) == 0)) = true then (parolelaw37_OddsRefuses.j0 k t101 true) else (parolelaw37_OddsRefuses.j0 k t101 (bt118.2 != 2)))) else (if ((bt107.2.2 == 1) != (decide (a1 > 1073741824))) = true then (parolelaw37_OddsRefuses.j0 k t101 true) else (if ((bt114.2 == 2) != ((Int.tmod a2 2) == 0)) = true then (parolelaw37_OddsRefuses.j0 k t101 true) else (parolelaw37_OddsRefuses.j0 k t101 (bt118.2 != 2)))))))))))) else (some false))) = some r := h
 clear h
 replace H := Option.bind_eq_some_iff.mp H
 obtain ⟨t101, A40, H⟩ := H
 replace H : (if t101 = true then ((parolelaw37_learned.f k ([] : List (S71)) a0 true).bind fun bt102 => ((parolelaw37_loss.f k ([] : List (S71)) 3 a1).bind fun bt107 => ((some (([(⟨5, wrap64 (1073741824 - (wrap64 (Int.tmod a2 2))), 0⟩ : S71)] : List (S71)) : List (S71))).bind fun y111 => ((parolelaw37_learned.f k y111 5 true).bind fun bt114 => ((parolelaw37_joined.f k y111 y111).bind fun bt118 => (if a0 < 1 then (if ((bt102.2 == 1) != true) = true then (parolelaw37_OddsRefuses.j0 k t101 true) else (if a1 < 0 then (if ((bt107.2.2 == 1) != true) = true then (parolelaw37_OddsRefuses.j0 k t101 true) else (if ((bt114.2 == 2) != ((Int.tmod a2 2) == 0)) = true then (parolelaw37_OddsRefuses.j0 k t101 true) else (parolelaw37_OddsRefuses.j0 k t101 (bt118.2 != 2)))) else (if ((bt107.2.2 == 1) != (decide (a1 > 1073741824))) = true then (parolelaw37_OddsRefuses.j0 k t101 true) else (if ((bt114.2 == 2) != ((Int.tmod a2 2) == 0)) = true then (parolelaw37_OddsRefuses.j0 k t101 true) else (parolelaw37_OddsRefuses.j0 k t101 (bt118.2 != 2)))))) else (if ((bt102.2 == 1) != (decide (a0 > 14))) = true then (parolelaw37_OddsRefuses.j0 k t101 true) else (if a1 < 0 then (if ((bt107.2.2 == 1) != true) = true then (parolelaw37_OddsRefuses.j0 k t101 true) else (if ((bt114.2 == 2) != ((Int.tmod a2 2) == 0)) = true then (parolelaw37_OddsRefuses.j0 k t101 true) else (parolelaw37_OddsRefuses.j0 k t101 (bt118.2 != 2)))) else (if ((bt107.2.2 == 1) != (decide (a1 > 1073741824))) = true then (parolelaw37_OddsRefuses.j0 k t101 true) else (if ((bt114.2 == 2) != ((Int.tmod a2 2) == 0)) = true then (parolelaw37_OddsRefuses.j0 k t101 true) else (parolelaw37_OddsRefuses.j0 k t101 (bt118.2 != 2)))))))))))) else (some false)) = some r := H
 have A4 := Aside0.mk A40
 clear A40
 by_cases c5 : t101 = true
 ·subst c5
  have H1 : ((parolelaw37_learned.f k ([] : List (S71)) a0 true).bind fun bt102 => ((parolelaw37_loss.f k ([] : List (S71)) 3 a1).bind fun bt107 => ((some (([(⟨5, wrap64 (1073741824 - (wrap64 (Int.tmod a2 2))), 0⟩ : S71)] : List (S71)) : List (S71))).bind fun y111 => ((parolelaw37_learned.f k y111 5 true).bind fun bt114 => ((parolelaw37_joined.f k y111 y111).bind fun bt118 => (if a0 < 1 then (if ((bt102.2 == 1) != true) = true then (parolelaw37_OddsRefuses.j0 k true true) else (if a1 < 0 then (if ((bt107.2.2 == 1) != true) = true then (parolelaw37_OddsRefuses.j0 k true true) else (if ((bt114.2 == 2) != ((Int.tmod a2 2) == 0)) = true then (parolelaw37_OddsRefuses.j0 k true true) else (parolelaw37_OddsRefuses.j0 k true (bt118.2 != 2)))) else (if ((bt107.2.2 == 1) != (decide (a1 > 1073741824))) = true then (parolelaw37_OddsRefuses.j0 k true true) else (if ((bt114.2 == 2) != ((Int.tmod a2 2) == 0)) = true then (parolelaw37_OddsRefuses.j0 k true true) else (parolelaw37_OddsRefuses.j0 k true (bt118.2 != 2)))))) else (if ((bt102.2 == 1) != (decide (a0 > 14))) = true then (parolelaw37_OddsRefuses.j0 k true true) else (if a1 < 0 then (if ((bt107.2.2 == 1) != true) = true then (parolelaw37_OddsRefuses.j0 k true true) else (if ((bt114.2 == 2) != ((Int.tmod a2 2) == 0)) = true then (parolelaw37_OddsRefuses.j0 k true true) else (parolelaw37_OddsRefuses.j0 k true (bt118.2 != 2)))) else (if ((bt107.2.2 == 1) != (decide (a1 > 1073741824))) = true then (parolelaw37_OddsRefuses.j0 k true true) else (if ((bt114.2 == 2) != ((Int.tmod a2 2) == 0)) = true then (parolelaw37_OddsRefuses.j0 k true true) else (parolelaw37_OddsRefuses.j0 k true (bt118.2 != 2)))))))))))) = some r := by rw [if_pos rfl] at H; exact H
  clear H
  have H := H1
  clear H1
  replace H := Option.bind_eq_some_iff.mp H
  obtain ⟨⟨t102, t105⟩, A60, H⟩ := H
  replace H : ((parolelaw37_loss.f k ([] : List (S71)) 3 a1).bind fun bt107 => ((some (([(⟨5, wrap64 (1073741824 - (wrap64 (Int.tmod a2 2))), 0⟩ : S71)] : List (S71)) : List (S71))).bind fun y111 => ((parolelaw37_learned.f k y111 5 true).bind fun bt114 => ((parolelaw37_joined.f k y111 y111).bind fun bt118 => (if a0 < 1 then (if ((t105 == 1) != true) = true then (parolelaw37_OddsRefuses.j0 k true true) else (if a1 < 0 then (if ((bt107.2.2 == 1) != true) = true then (parolelaw37_OddsRefuses.j0 k true true) else (if ((bt114.2 == 2) != ((Int.tmod a2 2) == 0)) = true then (parolelaw37_OddsRefuses.j0 k true true) else (parolelaw37_OddsRefuses.j0 k true (bt118.2 != 2)))) else (if ((bt107.2.2 == 1) != (decide (a1 > 1073741824))) = true then (parolelaw37_OddsRefuses.j0 k true true) else (if ((bt114.2 == 2) != ((Int.tmod a2 2) == 0)) = true then (parolelaw37_OddsRefuses.j0 k true true) else (parolelaw37_OddsRefuses.j0 k true (bt118.2 != 2)))))) else (if ((t105 == 1) != (decide (a0 > 14))) = true then (parolelaw37_OddsRefuses.j0 k true true) else (if a1 < 0 then (if ((bt107.2.2 == 1) != true) = true then (parolelaw37_OddsRefuses.j0 k true true) else (if ((bt114.2 == 2) != ((Int.tmod a2 2) == 0)) = true then (parolelaw37_OddsRefuses.j0 k true true) else (parolelaw37_OddsRefuses.j0 k true (bt118.2 != 2)))) else (if ((bt107.2.2 == 1) != (decide (a1 > 1073741824))) = true then (parolelaw37_OddsRefuses.j0 k true true) else (if ((bt114.2 == 2) != ((Int.tmod a2 2) == 0)) = true then (parolelaw37_OddsRefuses.j0 k true true) else (parolelaw37_OddsRefuses.j0 k true (bt118.2 != 2))))))))))) = some r := H
  have A6 := Aside0.mk A60
  clear A60
  replace H := Option.bind_eq_some_iff.mp H
  obtain ⟨⟨t107, t108, t109⟩, A70, H⟩ := H
  replace H : ((some (([(⟨5, wrap64 (1073741824 - (wrap64 (Int.tmod a2 2))), 0⟩ : S71)] : List (S71)) : List (S71))).bind fun y111 => ((parolelaw37_learned.f k y111 5 true).bind fun bt114 => ((parolelaw37_joined.f k y111 y111).bind fun bt118 => (if a0 < 1 then (if ((t105 == 1) != true) = true then (parolelaw37_OddsRefuses.j0 k true true) else (if a1 < 0 then (if ((t109 == 1) != true) = true then (parolelaw37_OddsRefuses.j0 k true true) else (if ((bt114.2 == 2) != ((Int.tmod a2 2) == 0)) = true then (parolelaw37_OddsRefuses.j0 k true true) else (parolelaw37_OddsRefuses.j0 k true (bt118.2 != 2)))) else (if ((t109 == 1) != (decide (a1 > 1073741824))) = true then (parolelaw37_OddsRefuses.j0 k true true) else (if ((bt114.2 == 2) != ((Int.tmod a2 2) == 0)) = true then (parolelaw37_OddsRefuses.j0 k true true) else (parolelaw37_OddsRefuses.j0 k true (bt118.2 != 2)))))) else (if ((t105 == 1) != (decide (a0 > 14))) = true then (parolelaw37_OddsRefuses.j0 k true true) else (if a1 < 0 then (if ((t109 == 1) != true) = true then (parolelaw37_OddsRefuses.j0 k true true) else (if ((bt114.2 == 2) != ((Int.tmod a2 2) == 0)) = true then (parolelaw37_OddsRefuses.j0 k true true) else (parolelaw37_OddsRefuses.j0 k true (bt118.2 != 2)))) else (if ((t109 == 1) != (decide (a1 > 1073741824))) = true then (parolelaw37_OddsRefuses.j0 k true true) else (if ((bt114.2 == 2) != ((Int.tmod a2 2) == 0)) = true then (parolelaw37_OddsRefuses.j0 k true true) else (parolelaw37_OddsRefuses.j0 k true (bt118.2 != 2)))))))))) = some r := H
  have A7 := Aside0.mk A70
  clear A70
  obtain ⟨y111, hy111⟩ : ∃ y_ : List (S71), y_ = (([(⟨5, wrap64 (1073741824 - (wrap64 (Int.tmod a2 2))), 0⟩ : S71)] : List (S71))) := ⟨_, rfl⟩
  replace H : ((parolelaw37_learned.f k y111 5 true).bind fun bt114 => ((parolelaw37_joined.f k y111 y111).bind fun bt118 => (if a0 < 1 then (if ((t105 == 1) != true) = true then (parolelaw37_OddsRefuses.j0 k true true) else (if a1 < 0 then (if ((t109 == 1) != true) = true then (parolelaw37_OddsRefuses.j0 k true true) else (if ((bt114.2 == 2) != ((Int.tmod a2 2) == 0)) = true then (parolelaw37_OddsRefuses.j0 k true true) else (parolelaw37_OddsRefuses.j0 k true (bt118.2 != 2)))) else (if ((t109 == 1) != (decide (a1 > 1073741824))) = true then (parolelaw37_OddsRefuses.j0 k true true) else (if ((bt114.2 == 2) != ((Int.tmod a2 2) == 0)) = true then (parolelaw37_OddsRefuses.j0 k true true) else (parolelaw37_OddsRefuses.j0 k true (bt118.2 != 2)))))) else (if ((t105 == 1) != (decide (a0 > 14))) = true then (parolelaw37_OddsRefuses.j0 k true true) else (if a1 < 0 then (if ((t109 == 1) != true) = true then (parolelaw37_OddsRefuses.j0 k true true) else (if ((bt114.2 == 2) != ((Int.tmod a2 2) == 0)) = true then (parolelaw37_OddsRefuses.j0 k true true) else (parolelaw37_OddsRefuses.j0 k true (bt118.2 != 2)))) else (if ((t109 == 1) != (decide (a1 > 1073741824))) = true then (parolelaw37_OddsRefuses.j0 k true true) else (if ((bt114.2 == 2) != ((Int.tmod a2 2) == 0)) = true then (parolelaw37_OddsRefuses.j0 k true true) else (parolelaw37_OddsRefuses.j0 k true (bt118.2 != 2))))))))) = some r := by first | (rw [hy111]; with_reducible exact H) | (have H2_ := (Option.bind_some _ _).symm.trans H; rw [hy111]; with_reducible exact H2_) | (have H2_ := (Option.bind_some _ _).symm.trans H; with_reducible exact H2_) | with_reducible exact H | (rw [hy111]; exact H) | exact H
  have Ny111 := Aside0.mk hy111
  clear hy111
  replace H := Option.bind_eq_some_iff.mp H
  obtain ⟨⟨t114, t117⟩, A80, H⟩ := H
  replace H : ((parolelaw37_joined.f k y111 y111).bind fun bt118 => (if a0 < 1 then (if ((t105 == 1) != true) = true then (parolelaw37_OddsRefuses.j0 k true true) else (if a1 < 0 then (if ((t109 == 1) != true) = true then (parolelaw37_OddsRefuses.j0 k true true) else (if ((t117 == 2) != ((Int.tmod a2 2) == 0)) = true then (parolelaw37_OddsRefuses.j0 k true true) else (parolelaw37_OddsRefuses.j0 k true (bt118.2 != 2)))) else (if ((t109 == 1) != (decide (a1 > 1073741824))) = true then (parolelaw37_OddsRefuses.j0 k true true) else (if ((t117 == 2) != ((Int.tmod a2 2) == 0)) = true then (parolelaw37_OddsRefuses.j0 k true true) else (parolelaw37_OddsRefuses.j0 k true (bt118.2 != 2)))))) else (if ((t105 == 1) != (decide (a0 > 14))) = true then (parolelaw37_OddsRefuses.j0 k true true) else (if a1 < 0 then (if ((t109 == 1) != true) = true then (parolelaw37_OddsRefuses.j0 k true true) else (if ((t117 == 2) != ((Int.tmod a2 2) == 0)) = true then (parolelaw37_OddsRefuses.j0 k true true) else (parolelaw37_OddsRefuses.j0 k true (bt118.2 != 2)))) else (if ((t109 == 1) != (decide (a1 > 1073741824))) = true then (parolelaw37_OddsRefuses.j0 k true true) else (if ((t117 == 2) != ((Int.tmod a2 2) == 0)) = true then (parolelaw37_OddsRefuses.j0 k true true) else (parolelaw37_OddsRefuses.j0 k true (bt118.2 != 2)))))))) = some r := H
  have A8 := Aside0.mk A80
  clear A80
  replace H := Option.bind_eq_some_iff.mp H
  obtain ⟨⟨t118, t121⟩, A90, H⟩ := H
  replace H : (if a0 < 1 then (if ((t105 == 1) != true) = true then (parolelaw37_OddsRefuses.j0 k true true) else (if a1 < 0 then (if ((t109 == 1) != true) = true then (parolelaw37_OddsRefuses.j0 k true true) else (if ((t117 == 2) != ((Int.tmod a2 2) == 0)) = true then (parolelaw37_OddsRefuses.j0 k true true) else (parolelaw37_OddsRefuses.j0 k true (t121 != 2)))) else (if ((t109 == 1) != (decide (a1 > 1073741824))) = true then (parolelaw37_OddsRefuses.j0 k true true) else (if ((t117 == 2) != ((Int.tmod a2 2) == 0)) = true then (parolelaw37_OddsRefuses.j0 k true true) else (parolelaw37_OddsRefuses.j0 k true (t121 != 2)))))) else (if ((t105 == 1) != (decide (a0 > 14))) = true then (parolelaw37_OddsRefuses.j0 k true true) else (if a1 < 0 then (if ((t109 == 1) != true) = true then (parolelaw37_OddsRefuses.j0 k true true) else (if ((t117 == 2) != ((Int.tmod a2 2) == 0)) = true then (parolelaw37_OddsRefuses.j0 k true true) else (parolelaw37_OddsRefuses.j0 k true (t121 != 2)))) else (if ((t109 == 1) != (decide (a1 > 1073741824))) = true then (parolelaw37_OddsRefuses.j0 k true true) else (if ((t117 == 2) != ((Int.tmod a2 2) == 0)) = true then (parolelaw37_OddsRefuses.j0 k true true) else (parolelaw37_OddsRefuses.j0 k true (t121 != 2))))))) = some r := H
  have A9 := Aside0.mk A90
  clear A90
  have HC10 := Aside0.mk H
  clear H
  go_enter Try.func6, Try.ntmps6
  go_upto_region 8 with (first | ((with_reducible refine gate_callee (f := 15) rfl ?_); refine goesL_ (some 15) rfl rfl Try.func15 (by kernel_rfl) rfl #[] rfl (by (try simp only [List.map_toArray, List.map_cons, List.map_nil]); first | done | rfl | (simp only [List.length_drop, List.length_take]; rfl)) ?_; (with_reducible refine (parolelaw37_examples.calls k  true _ A4.out).mono ?_); rintro e w11 ⟨rfl, hb⟩; refine ⟨_, rfl, ?_⟩; have n0_ := Aside0.mk (below_step (by repeat (first | (with_reducible first | exact HB.out | apply below_alloc | apply pw_below_drewN | apply below_drew1) | exact HB.out)) hb); clear HB; have HB := n0_; clear n0_; (try clear hb); (try clear hb2); (try clear hk); (try clear hi)) | ((with_reducible refine gate_callee (f := 26) rfl ?_); refine goesL_ (some 19) rfl rfl Try.func26 (by kernel_rfl) rfl #[.slice none 0 0, .int .i64 a0, .bool true] rfl (by (try simp only [List.map_toArray, List.map_cons, List.map_nil]); first | done | rfl | (simp only [List.length_drop, List.length_take]; rfl)) ?_; (refine (parolelaw37_learned.calls k _ _ ([] : List (S71)) a0 true t102 t105 _ ?side1 ?side2 A6.out).mono ?_); (case side1 => exact Kd.C_nil _ _); (case side2 => exact Nat.le_refl _); rintro e w12 ⟨v103, rfl, ho0, hb⟩; refine ⟨_, rfl, ?_⟩; have n0_ := Aside0.mk (Kd.R_lower ho0 (below_size (by repeat (first | (with_reducible first | exact HB.out | apply below_alloc | apply pw_below_drewN | apply below_drew1) | exact HB.out)))); have n1_ := Aside0.mk (below_step (by repeat (first | (with_reducible first | exact HB.out | apply below_alloc | apply pw_below_drewN | apply below_drew1) | exact HB.out)) hb); clear HB; have HO104 := n0_; have HB := n1_; clear n0_ n1_; (try clear hb); (try clear hb2); (try clear hk); (try clear hi); (try clear ho0)) | ((with_reducible refine gate_dst (N := 8) rfl ?_); refine box_event ?hg (N := 8) ?hd (cs := #[.slice none 0 0, .int .i64 0]) (t := 32) ?hr ?_; (case hd => rfl); (case hg => rfl); (case hr => first | (go_simp; done) | (go_simp; rfl)); intro gb106 hg w13 hbox hb; have n0_ := Aside0.mk (Kd.R_below (by (with_reducible repeat (first | apply Kd.R_alloc | apply Kd.R_drewN | apply Kd.R_drew)); exact HO104.out) hb); have n1_ := Aside0.mk (below_step (by repeat (first | (with_reducible first | exact HB.out | apply below_alloc | apply pw_below_drewN | apply below_drew1) | exact HB.out)) hb); have n2_ := Aside0.mk (hbox); have n3_ := Aside0.mk ((by rw [hg]; exact (below_size (by repeat (first | (with_reducible first | exact HB.out | apply below_alloc | apply pw_below_drewN | apply below_drew1) | exact HB.out))) : w.heap.size ≤ gb106)); have n4_ := Aside0.mk ((by rw [hg]; exact (below_size (by repeat (first | (with_reducible first | exact HB.out | apply below_alloc | apply pw_below_drewN | apply below_drew1) | exact HB.out))) : w.heap.size ≤ gb106)); clear HO104; clear HB; have HO104 := n0_; have HB := n1_; have BK106 := n2_; have GW106 := n3_; have GE106 := n4_; clear n0_ n1_ n2_ n3_ n4_; clear hb hbox hg; obtain ⟨Ao14, co14, eo14⟩ := Kd.R_slice HO104.out; subst eo14; have hcz15_0 : w13.cell? ⟨gb106, 0, none⟩ = some (.slice none 0 0) := (blk_cell BK106.out 0).trans rfl; have hcz15_1 : w13.cell? ⟨gb106, 1, none⟩ = some (.int .i64 0) := (blk_cell BK106.out 1).trans rfl; have hfz15_0 := blk_frozen BK106.out 0; have hfz15_1 := blk_frozen BK106.out 1) | ((with_reducible refine gate_callee (f := 24) rfl ?_); refine goesL_ (some 21) rfl rfl Try.func24 (by kernel_rfl) rfl #[.slice none 0 0, .int .i64 3, .int .i64 a1] rfl (by (try simp only [List.map_toArray, List.map_cons, List.map_nil]); first | done | rfl | (simp only [List.length_drop, List.length_take]; rfl)) ?_; (refine (parolelaw37_loss.calls k _ _ ([] : List (S71)) 3 a1 t107 t108 t109 _ ?side1 ?side2 A7.out).mono ?_); (case side1 => exact Kd.C_nil _ _); (case side2 => exact Nat.le_refl _); rintro e w16 ⟨rfl, hb⟩; refine ⟨_, rfl, ?_⟩; have n0_ := Aside0.mk (Kd.R_below (by (with_reducible repeat (first | apply Kd.R_alloc | apply Kd.R_drewN | apply Kd.R_drew)); exact (Kd.R_mono (Kd.R_far (p := ⟨gb106, 1, none⟩) (Kd.R_far (p := ⟨gb106, 0, none⟩) (Kd.R_types HO104.out BK106.out (by decide)) (fun _ hk => hk.2) (.slice Ao14 t102.length co14)) (fun _ hk => hk.2) (.int .i64 t105)) (fun _ h_ => h_.1))) hb); have n1_ := Aside0.mk (blk_below (g := gb106) (o := .cells #[.slice Ao14 t102.length co14, .int .i64 t105] 32 (0, 0)) (by (with_reducible repeat (first | refine blk_drewN ?_ _ | refine blk_drew ?_ | refine blk_alloc ?_ _)); refine blk_put (cs := #[.slice Ao14 t102.length co14, .int .i64 0]) ?_ 1 _ rfl; (with_reducible repeat (first | refine blk_drewN ?_ _ | refine blk_drew ?_ | refine blk_alloc ?_ _)); refine blk_put (cs := #[.slice none 0 0, .int .i64 0]) ?_ 0 _ rfl; (with_reducible repeat (first | refine blk_drewN ?_ _ | refine blk_drew ?_ | refine blk_alloc ?_ _)); exact BK106.out) hb); have n2_ := Aside0.mk (below_step (by repeat (first | (with_reducible first | exact HB.out | apply below_alloc | apply pw_below_drewN | apply below_drew1 | refine below_set ?_ GE106.out) | exact HB.out)) hb); clear HO104; clear BK106; clear HB; have HO104 := n0_; have BK106 := n1_; have HB := n2_; clear n0_ n1_ n2_; (try clear hb); (try clear hb2); (try clear hk); (try clear hi)) | ((with_reducible refine gate_dst (N := 9) rfl ?_); refine box_event ?hg (N := 9) ?hd (cs := #[.int .i64 0, .int .i64 0, .int .i64 0]) (t := 38) ?hr ?_; (case hd => rfl); (case hg => rfl); (case hr => first | (go_simp; done) | (go_simp; rfl)); intro gb110 hg w17 hbox hb; have n0_ := Aside0.mk (Kd.R_below (by (with_reducible repeat (first | apply Kd.R_alloc | apply Kd.R_drewN | apply Kd.R_drew)); exact HO104.out) hb); have n1_ := Aside0.mk (blk_below (g := gb106) (o := .cells #[.slice Ao14 t102.length co14, .int .i64 t105] 32 (0, 0)) (by (with_reducible repeat (first | refine blk_drewN ?_ _ | refine blk_drew ?_ | refine blk_alloc ?_ _)); exact BK106.out) hb); have n2_ := Aside0.mk (below_step (by repeat (first | (with_reducible first | exact HB.out | apply below_alloc | apply pw_below_drewN | apply below_drew1 | refine below_set ?_ GE106.out) | exact HB.out)) hb); have n3_ := Aside0.mk (hbox); have n4_ := Aside0.mk ((by rw [hg]; exact (below_size (by repeat (first | (with_reducible first | exact HB.out | apply below_alloc | apply pw_below_drewN | apply below_drew1 | refine below_set ?_ GE106.out) | exact HB.out))) : w.heap.size ≤ gb110)); have n5_ := Aside0.mk ((by rw [hg]; exact (below_size (by repeat (first | (with_reducible first | exact HB.out | apply below_alloc | apply pw_below_drewN | apply below_drew1 | refine below_set ?_ GE106.out) | exact HB.out))) : w.heap.size ≤ gb110)); have n6_ := Aside0.mk ((by rw [hg]; exact Nat.ne_of_lt (blk_lt (g := gb106) (o := .cells #[.slice Ao14 t102.length co14, .int .i64 t105] 32 (0, 0)) (by (with_reducible repeat (first | refine blk_drewN ?_ _ | refine blk_drew ?_ | refine blk_alloc ?_ _)); exact BK106.out)) : gb106 ≠ gb110)); have n7_ := Aside0.mk ((by rw [hg]; exact Nat.ne_of_gt (blk_lt (g := gb106) (o := .cells #[.slice Ao14 t102.length co14, .int .i64 t105] 32 (0, 0)) (by (with_reducible repeat (first | refine blk_drewN ?_ _ | refine blk_drew ?_ | refine blk_alloc ?_ _)); exact BK106.out)) : gb110 ≠ gb106)); clear HO104; clear BK106; clear HB; have HO104 := n0_; have BK106 := n1_; have HB := n2_; have BK110 := n3_; have GW110 := n4_; have GE110 := n5_; have NB106_110 := n6_; have NB110_106 := n7_; clear n0_ n1_ n2_ n3_ n4_ n5_ n6_ n7_; clear hb hbox hg; have hnb18 := NB110_106.out; have hnc18 := NB106_110.out; have hcz19_0 : w17.cell? ⟨gb110, 0, none⟩ = some (.int .i64 0) := (blk_cell BK110.out 0).trans rfl; have hcz19_1 : w17.cell? ⟨gb110, 1, none⟩ = some (.int .i64 0) := (blk_cell BK110.out 1).trans rfl; have hcz19_2 : w17.cell? ⟨gb110, 2, none⟩ = some (.int .i64 0) := (blk_cell BK110.out 2).trans rfl; have hfz19_0 := blk_frozen BK110.out 0; have hfz19_1 := blk_frozen BK110.out 1; have hfz19_2 := blk_frozen BK110.out 2) | ((with_reducible refine gate_dst (N := 27) rfl ?_); refine Kd.R_lit k71 _ 71 ?hg (N := 27) ?hd (xs := ([(⟨5, wrap64 (1073741824 - (wrap64 (Int.tmod a2 2))), 0⟩ : S71)] : List (S71))) (inner := [.int .i64 5, .int .i64 (wrap64 (1073741824 - (wrap64 (Int.tmod a2 2)))), .int .i64 0]) (ok := fun _ => True) (okp := fun _ => True) ?hr ?hp (fun _ hk => hk) trivial (Below.refl _ _) (Nat.le_refl _) (by simp) ?_; (case hd => rfl); (case hg => rfl); (case hr => first | (go_simp; done) | (go_simp; rfl)); (case hp => exact (Reps.c3 (show Kd.M k71 _ _ _ (⟨5, wrap64 (1073741824 - (wrap64 (Int.tmod a2 2))), 0⟩ : S71) [.int .i64 5, .int .i64 (wrap64 (1073741824 - (wrap64 (Int.tmod a2 2)))), .int .i64 0] from (k71_mkM _ _ _ (⟨5, wrap64 (1073741824 - (wrap64 (Int.tmod a2 2))), 0⟩ : S71) )) (Reps.none _ _))); intro v112 w20 ho21 hb hg_ hnew_; clear hg_ hnew_; (first | rw [← Ny111.out] at ho21 | (simp only [Int.reduceToNat] at ho21; rw [← Ny111.out] at ho21)); have n0_ := Aside0.mk (Kd.R_elder' (by (with_reducible repeat (first | apply Kd.R_alloc | apply Kd.R_drewN | apply Kd.R_drew)); exact (Kd.R_mono (Kd.R_far (p := ⟨gb110, 2, none⟩) (Kd.R_far (p := ⟨gb110, 1, none⟩) (Kd.R_far (p := ⟨gb110, 0, none⟩) (Kd.R_types HO104.out BK110.out (by decide)) (fun _ hk => hk.2) (.int .i64 t107)) (fun _ hk => hk.2) (.int .i64 t108)) (fun _ hk => hk.2) (.int .i64 t109)) (fun _ h_ => h_.1))) (Kd.R_base ho21) hb); have n1_ := Aside0.mk (Kd.R_lower (Kd.R_new' ho21 (Kd.R_lt (by (with_reducible repeat (first | apply Kd.R_alloc | apply Kd.R_drewN | apply Kd.R_drew)); exact (Kd.R_mono (Kd.R_far (p := ⟨gb110, 2, none⟩) (Kd.R_far (p := ⟨gb110, 1, none⟩) (Kd.R_far (p := ⟨gb110, 0, none⟩) (Kd.R_types HO104.out BK110.out (by decide)) (fun _ hk => hk.2) (.int .i64 t107)) (fun _ hk => hk.2) (.int .i64 t108)) (fun _ hk => hk.2) (.int .i64 t109)) (fun _ h_ => h_.1))))) (below_size (by repeat (first | (with_reducible first | exact HB.out | apply below_alloc | apply pw_below_drewN | apply below_drew1 | refine below_set ?_ GE106.out | refine below_set ?_ GE110.out) | exact HB.out)))); have n2_ := Aside0.mk (blk_below (g := gb106) (o := .cells #[.slice Ao14 t102.length co14, .int .i64 t105] 32 (0, 0)) (by (with_reducible repeat (first | refine blk_drewN ?_ _ | refine blk_drew ?_ | refine blk_alloc ?_ _)); refine blk_far ?_ NB106_110.out _; (with_reducible repeat (first | refine blk_drewN ?_ _ | refine blk_drew ?_ | refine blk_alloc ?_ _)); refine blk_far ?_ NB106_110.out _; (with_reducible repeat (first | refine blk_drewN ?_ _ | refine blk_drew ?_ | refine blk_alloc ?_ _)); refine blk_far ?_ NB106_110.out _; (with_reducible repeat (first | refine blk_drewN ?_ _ | refine blk_drew ?_ | refine blk_alloc ?_ _)); exact BK106.out) hb); have n3_ := Aside0.mk (blk_below (g := gb110) (o := .cells #[.int .i64 t107, .int .i64 t108, .int .i64 t109] 38 (0, 0)) (by (with_reducible repeat (first | refine blk_drewN ?_ _ | refine blk_drew ?_ | refine blk_alloc ?_ _)); refine blk_put (cs := #[.int .i64 t107, .int .i64 t108, .int .i64 0]) ?_ 2 _ rfl; (with_reducible repeat (first | refine blk_drewN ?_ _ | refine blk_drew ?_ | refine blk_alloc ?_ _)); refine blk_put (cs := #[.int .i64 t107, .int .i64 0, .int .i64 0]) ?_ 1 _ rfl; (with_reducible repeat (first | refine blk_drewN ?_ _ | refine blk_drew ?_ | refine blk_alloc ?_ _)); refine blk_put (cs := #[.int .i64 0, .int .i64 0, .int .i64 0]) ?_ 0 _ rfl; (with_reducible repeat (first | refine blk_drewN ?_ _ | refine blk_drew ?_ | refine blk_alloc ?_ _)); exact BK110.out) hb); have n4_ := Aside0.mk (below_step (by repeat (first | (with_reducible first | exact HB.out | apply below_alloc | apply pw_below_drewN | apply below_drew1 | refine below_set ?_ GE106.out | refine below_set ?_ GE110.out) | exact HB.out)) hb); clear HO104; clear BK106; clear BK110; clear HB; have HO104 := n0_; have HO113 := n1_; have BK106 := n2_; have BK110 := n3_; have HB := n4_; clear n0_ n1_ n2_ n3_ n4_; clear hb ho21; obtain ⟨Ao22, co22, eo22⟩ := Kd.R_slice HO113.out; subst eo22) | ((with_reducible refine gate_callee (f := 26) rfl ?_); refine goesL_ (some 29) rfl rfl Try.func26 (by kernel_rfl) rfl #[.slice Ao22 y111.length co22, .int .i64 5, .bool true] rfl (by (try simp only [List.map_toArray, List.map_cons, List.map_nil]); first | done | rfl | (simp only [List.length_drop, List.length_take]; rfl)) ?_; (with_reducible refine (parolelaw37_learned.calls k _ _ y111 5 true t114 t117 _ ?side1 ?side2 A8.out).mono ?_); (case side1 => repeat (first | exact (Kd.R_reads' HO113.out).2.2 | (with_reducible refine Kd.C_alloc ?_ _) | (with_reducible refine Kd.C_drewN ?_ _) | (with_reducible refine Kd.C_drew ?_))); (case side2 => exact (Kd.R_reads' HO113.out).2.1); rintro e w23 ⟨v115, rfl, ho0, hb⟩; refine ⟨_, rfl, ?_⟩; have n0_ := Aside0.mk (Kd.R_elder' (by (with_reducible repeat (first | apply Kd.R_alloc | apply Kd.R_drewN | apply Kd.R_drew)); exact HO104.out) (Kd.R_base ho0) hb); have n1_ := Aside0.mk (Kd.R_elder' (by (with_reducible repeat (first | apply Kd.R_alloc | apply Kd.R_drewN | apply Kd.R_drew)); exact HO113.out) (Kd.R_base ho0) hb); have n2_ := Aside0.mk (Kd.R_lower (Kd.R_new' (Kd.R_new' ho0 (Kd.R_lt (by (with_reducible repeat (first | apply Kd.R_alloc | apply Kd.R_drewN | apply Kd.R_drew)); exact HO104.out))) (Kd.R_lt (by (with_reducible repeat (first | apply Kd.R_alloc | apply Kd.R_drewN | apply Kd.R_drew)); exact HO113.out))) (below_size (by repeat (first | (with_reducible first | exact HB.out | apply below_alloc | apply pw_below_drewN | apply below_drew1 | refine below_set ?_ GE106.out | refine below_set ?_ GE110.out) | exact HB.out)))); have n3_ := Aside0.mk (blk_below (g := gb106) (o := .cells #[.slice Ao14 t102.length co14, .int .i64 t105] 32 (0, 0)) (by (with_reducible repeat (first | refine blk_drewN ?_ _ | refine blk_drew ?_ | refine blk_alloc ?_ _)); exact BK106.out) hb); have n4_ := Aside0.mk (blk_below (g := gb110) (o := .cells #[.int .i64 t107, .int .i64 t108, .int .i64 t109] 38 (0, 0)) (by (with_reducible repeat (first | refine blk_drewN ?_ _ | refine blk_drew ?_ | refine blk_alloc ?_ _)); exact BK110.out) hb); have n5_ := Aside0.mk (below_step (by repeat (first | (with_reducible first | exact HB.out | apply below_alloc | apply pw_below_drewN | apply below_drew1 | refine below_set ?_ GE106.out | refine below_set ?_ GE110.out) | exact HB.out)) hb); clear HO104; clear HO113; clear BK106; clear BK110; clear HB; have HO104 := n0_; have HO113 := n1_; have HO116 := n2_; have BK106 := n3_; have BK110 := n4_; have HB := n5_; clear n0_ n1_ n2_ n3_ n4_ n5_; (try clear hb); (try clear hb2); (try clear hk); (try clear hi); (try clear ho0)) | ((with_reducible refine gate_callee (f := 20) rfl ?_); refine goesL_ (some 32) rfl rfl Try.func20 (by kernel_rfl) rfl #[.slice Ao22 y111.length co22, .slice Ao22 y111.length co22] rfl (by (try simp only [List.map_toArray, List.map_cons, List.map_nil]); first | done | rfl | (simp only [List.length_drop, List.length_take]; rfl)) ?_; (with_reducible refine (parolelaw37_joined.calls k _ _ y111 _ _ y111 t118 t121 _ ?side1 ?side2 ?side3 ?side4 A9.out).mono ?_); (case side1 => repeat (first | exact (Kd.R_reads' HO113.out).2.2 | (with_reducible refine Kd.C_alloc ?_ _) | (with_reducible refine Kd.C_drewN ?_ _) | (with_reducible refine Kd.C_drew ?_))); (case side2 => exact (Kd.R_reads' HO113.out).2.1); (case side3 => repeat (first | exact (Kd.R_reads' HO113.out).2.2 | (with_reducible refine Kd.C_alloc ?_ _) | (with_reducible refine Kd.C_drewN ?_ _) | (with_reducible refine Kd.C_drew ?_))); (case side4 => exact (Kd.R_reads' HO113.out).2.1); rintro e w24 ⟨v119, rfl, ho0, hb⟩; refine ⟨_, rfl, ?_⟩; have n0_ := Aside0.mk (Kd.R_elder' (by (with_reducible repeat (first | apply Kd.R_alloc | apply Kd.R_drewN | apply Kd.R_drew)); exact HO104.out) (Kd.R_base ho0) hb); have n1_ := Aside0.mk (Kd.R_elder' (by (with_reducible repeat (first | apply Kd.R_alloc | apply Kd.R_drewN | apply Kd.R_drew)); exact HO113.out) (Kd.R_base ho0) hb); have n2_ := Aside0.mk (Kd.R_elder' (by (with_reducible repeat (first | apply Kd.R_alloc | apply Kd.R_drewN | apply Kd.R_drew)); exact HO116.out) (Kd.R_base ho0) hb); have n3_ := Aside0.mk (Kd.R_lower (Kd.R_new' (Kd.R_new' (Kd.R_new' ho0 (Kd.R_lt (by (with_reducible repeat (first | apply Kd.R_alloc | apply Kd.R_drewN | apply Kd.R_drew)); exact HO104.out))) (Kd.R_lt (by (with_reducible repeat (first | apply Kd.R_alloc | apply Kd.R_drewN | apply Kd.R_drew)); exact HO113.out))) (Kd.R_lt (by (with_reducible repeat (first | apply Kd.R_alloc | apply Kd.R_drewN | apply Kd.R_drew)); exact HO116.out))) (below_size (by repeat (first | (with_reducible first | exact HB.out | apply below_alloc | apply pw_below_drewN | apply below_drew1 | refine below_set ?_ GE106.out | refine below_set ?_ GE110.out) | exact HB.out)))); have n4_ := Aside0.mk (blk_below (g := gb106) (o := .cells #[.slice Ao14 t102.length co14, .int .i64 t105] 32 (0, 0)) (by (with_reducible repeat (first | refine blk_drewN ?_ _ | refine blk_drew ?_ | refine blk_alloc ?_ _)); exact BK106.out) hb); have n5_ := Aside0.mk (blk_below (g := gb110) (o := .cells #[.int .i64 t107, .int .i64 t108, .int .i64 t109] 38 (0, 0)) (by (with_reducible repeat (first | refine blk_drewN ?_ _ | refine blk_drew ?_ | refine blk_alloc ?_ _)); exact BK110.out) hb); have n6_ := Aside0.mk (below_step (by repeat (first | (with_reducible first | exact HB.out | apply below_alloc | apply pw_below_drewN | apply below_drew1 | refine below_set ?_ GE106.out | refine below_set ?_ GE110.out) | exact HB.out)) hb); clear HO104; clear HO113; clear HO116; clear BK106; clear BK110; clear HB; have HO104 := n0_; have HO113 := n1_; have HO116 := n2_; have HO120 := n3_; have BK106 := n4_; have BK110 := n5_; have HB := n6_; clear n0_ n1_ n2_ n3_ n4_ n5_ n6_; (try clear hb); (try clear hb2); (try clear hk); (try clear hi); (try clear ho0)) | ((with_reducible refine gate_dst (N := 11) rfl ?_); refine box_event ?hg (N := 11) ?hd (cs := #[.slice none 0 0, .int .i64 0]) (t := 32) ?hr ?_; (case hd => rfl); (case hg => rfl); (case hr => first | (go_simp; done) | (go_simp; rfl)); intro gb122 hg w25 hbox hb; have n0_ := Aside0.mk (Kd.R_below (by (with_reducible repeat (first | apply Kd.R_alloc | apply Kd.R_drewN | apply Kd.R_drew)); exact HO104.out) hb); have n1_ := Aside0.mk (Kd.R_below (by (with_reducible repeat (first | apply Kd.R_alloc | apply Kd.R_drewN | apply Kd.R_drew)); exact HO113.out) hb); have n2_ := Aside0.mk (Kd.R_below (by (with_reducible repeat (first | apply Kd.R_alloc | apply Kd.R_drewN | apply Kd.R_drew)); exact HO116.out) hb); have n3_ := Aside0.mk (Kd.R_below (by (with_reducible repeat (first | apply Kd.R_alloc | apply Kd.R_drewN | apply Kd.R_drew)); exact HO120.out) hb); have n4_ := Aside0.mk (blk_below (g := gb106) (o := .cells #[.slice Ao14 t102.length co14, .int .i64 t105] 32 (0, 0)) (by (with_reducible repeat (first | refine blk_drewN ?_ _ | refine blk_drew ?_ | refine blk_alloc ?_ _)); exact BK106.out) hb); have n5_ := Aside0.mk (blk_below (g := gb110) (o := .cells #[.int .i64 t107, .int .i64 t108, .int .i64 t109] 38 (0, 0)) (by (with_reducible repeat (first | refine blk_drewN ?_ _ | refine blk_drew ?_ | refine blk_alloc ?_ _)); exact BK110.out) hb); have n6_ := Aside0.mk (below_step (by repeat (first | (with_reducible first | exact HB.out | apply below_alloc | apply pw_below_drewN | apply below_drew1 | refine below_set ?_ GE106.out | refine below_set ?_ GE110.out) | exact HB.out)) hb); have n7_ := Aside0.mk (hbox); have n8_ := Aside0.mk ((by rw [hg]; exact (below_size (by repeat (first | (with_reducible first | exact HB.out | apply below_alloc | apply pw_below_drewN | apply below_drew1 | refine below_set ?_ GE106.out | refine below_set ?_ GE110.out) | exact HB.out))) : w.heap.size ≤ gb122)); have n9_ := Aside0.mk ((by rw [hg]; exact (below_size (by repeat (first | (with_reducible first | exact HB.out | apply below_alloc | apply pw_below_drewN | apply below_drew1 | refine below_set ?_ GE106.out | refine below_set ?_ GE110.out) | exact HB.out))) : w.heap.size ≤ gb122)); have n10_ := Aside0.mk ((by rw [hg]; exact Nat.ne_of_lt (blk_lt (g := gb106) (o := .cells #[.slice Ao14 t102.length co14, .int .i64 t105] 32 (0, 0)) (by (with_reducible repeat (first | refine blk_drewN ?_ _ | refine blk_drew ?_ | refine blk_alloc ?_ _)); exact BK106.out)) : gb106 ≠ gb122)); have n11_ := Aside0.mk ((by rw [hg]; exact Nat.ne_of_gt (blk_lt (g := gb106) (o := .cells #[.slice Ao14 t102.length co14, .int .i64 t105] 32 (0, 0)) (by (with_reducible repeat (first | refine blk_drewN ?_ _ | refine blk_drew ?_ | refine blk_alloc ?_ _)); exact BK106.out)) : gb122 ≠ gb106)); have n12_ := Aside0.mk ((by rw [hg]; exact Nat.ne_of_lt (blk_lt (g := gb110) (o := .cells #[.int .i64 t107, .int .i64 t108, .int .i64 t109] 38 (0, 0)) (by (with_reducible repeat (first | refine blk_drewN ?_ _ | refine blk_drew ?_ | refine blk_alloc ?_ _)); exact BK110.out)) : gb110 ≠ gb122)); have n13_ := Aside0.mk ((by rw [hg]; exact Nat.ne_of_gt (blk_lt (g := gb110) (o := .cells #[.int .i64 t107, .int .i64 t108, .int .i64 t109] 38 (0, 0)) (by (with_reducible repeat (first | refine blk_drewN ?_ _ | refine blk_drew ?_ | refine blk_alloc ?_ _)); exact BK110.out)) : gb122 ≠ gb110)); clear HO104; clear HO113; clear HO116; clear HO120; clear BK106; clear BK110; clear HB; have HO104 := n0_; have HO113 := n1_; have HO116 := n2_; have HO120 := n3_; have BK106 := n4_; have BK110 := n5_; have HB := n6_; have BK122 := n7_; have GW122 := n8_; have GE122 := n9_; have NB106_122 := n10_; have NB122_106 := n11_; have NB110_122 := n12_; have NB122_110 := n13_; clear n0_ n1_ n2_ n3_ n4_ n5_ n6_ n7_ n8_ n9_ n10_ n11_ n12_ n13_; clear hb hbox hg) | ((with_reducible refine gate_dst (N := 12) rfl ?_); refine box_event ?hg (N := 12) ?hd (cs := #[.slice none 0 0, .int .i64 0]) (t := 32) ?hr ?_; (case hd => rfl); (case hg => rfl); (case hr => first | (go_simp; done) | (go_simp; rfl)); intro gb123 hg w26 hbox hb; have n0_ := Aside0.mk (Kd.R_below (by (with_reducible repeat (first | apply Kd.R_alloc | apply Kd.R_drewN | apply Kd.R_drew)); exact HO104.out) hb); have n1_ := Aside0.mk (Kd.R_below (by (with_reducible repeat (first | apply Kd.R_alloc | apply Kd.R_drewN | apply Kd.R_drew)); exact HO113.out) hb); have n2_ := Aside0.mk (Kd.R_below (by (with_reducible repeat (first | apply Kd.R_alloc | apply Kd.R_drewN | apply Kd.R_drew)); exact HO116.out) hb); have n3_ := Aside0.mk (Kd.R_below (by (with_reducible repeat (first | apply Kd.R_alloc | apply Kd.R_drewN | apply Kd.R_drew)); exact HO120.out) hb); have n4_ := Aside0.mk (blk_below (g := gb106) (o := .cells #[.slice Ao14 t102.length co14, .int .i64 t105] 32 (0, 0)) (by (with_reducible repeat (first | refine blk_drewN ?_ _ | refine blk_drew ?_ | refine blk_alloc ?_ _)); exact BK106.out) hb); have n5_ := Aside0.mk (blk_below (g := gb110) (o := .cells #[.int .i64 t107, .int .i64 t108, .int .i64 t109] 38 (0, 0)) (by (with_reducible repeat (first | refine blk_drewN ?_ _ | refine blk_drew ?_ | refine blk_alloc ?_ _)); exact BK110.out) hb); have n6_ := Aside0.mk (blk_below (g := gb122) (o := .cells #[.slice none 0 0, .int .i64 0] 32 (0, 0)) (by (with_reducible repeat (first | refine blk_drewN ?_ _ | refine blk_drew ?_ | refine blk_alloc ?_ _)); exact BK122.out) hb); have n7_ := Aside0.mk (below_step (by repeat (first | (with_reducible first | exact HB.out | apply below_alloc | apply pw_below_drewN | apply below_drew1 | refine below_set ?_ GE106.out | refine below_set ?_ GE110.out | refine below_set ?_ GE122.out) | exact HB.out)) hb); have n8_ := Aside0.mk (hbox); have n9_ := Aside0.mk ((by rw [hg]; exact (below_size (by repeat (first | (with_reducible first | exact HB.out | apply below_alloc | apply pw_below_drewN | apply below_drew1 | refine below_set ?_ GE106.out | refine below_set ?_ GE110.out | refine below_set ?_ GE122.out) | exact HB.out))) : w.heap.size ≤ gb123)); have n10_ := Aside0.mk ((by rw [hg]; exact (below_size (by repeat (first | (with_reducible first | exact HB.out | apply below_alloc | apply pw_below_drewN | apply below_drew1 | refine below_set ?_ GE106.out | refine below_set ?_ GE110.out | refine below_set ?_ GE122.out) | exact HB.out))) : w.heap.size ≤ gb123)); have n11_ := Aside0.mk ((by rw [hg]; exact Nat.ne_of_lt (blk_lt (g := gb106) (o := .cells #[.slice Ao14 t102.length co14, .int .i64 t105] 32 (0, 0)) (by (with_reducible repeat (first | refine blk_drewN ?_ _ | refine blk_drew ?_ | refine blk_alloc ?_ _)); exact BK106.out)) : gb106 ≠ gb123)); have n12_ := Aside0.mk ((by rw [hg]; exact Nat.ne_of_gt (blk_lt (g := gb106) (o := .cells #[.slice Ao14 t102.length co14, .int .i64 t105] 32 (0, 0)) (by (with_reducible repeat (first | refine blk_drewN ?_ _ | refine blk_drew ?_ | refine blk_alloc ?_ _)); exact BK106.out)) : gb123 ≠ gb106)); have n13_ := Aside0.mk ((by rw [hg]; exact Nat.ne_of_lt (blk_lt (g := gb110) (o := .cells #[.int .i64 t107, .int .i64 t108, .int .i64 t109] 38 (0, 0)) (by (with_reducible repeat (first | refine blk_drewN ?_ _ | refine blk_drew ?_ | refine blk_alloc ?_ _)); exact BK110.out)) : gb110 ≠ gb123)); have n14_ := Aside0.mk ((by rw [hg]; exact Nat.ne_of_gt (blk_lt (g := gb110) (o := .cells #[.int .i64 t107, .int .i64 t108, .int .i64 t109] 38 (0, 0)) (by (with_reducible repeat (first | refine blk_drewN ?_ _ | refine blk_drew ?_ | refine blk_alloc ?_ _)); exact BK110.out)) : gb123 ≠ gb110)); have n15_ := Aside0.mk ((by rw [hg]; exact Nat.ne_of_lt (blk_lt (g := gb122) (o := .cells #[.slice none 0 0, .int .i64 0] 32 (0, 0)) (by (with_reducible repeat (first | refine blk_drewN ?_ _ | refine blk_drew ?_ | refine blk_alloc ?_ _)); exact BK122.out)) : gb122 ≠ gb123)); have n16_ := Aside0.mk ((by rw [hg]; exact Nat.ne_of_gt (blk_lt (g := gb122) (o := .cells #[.slice none 0 0, .int .i64 0] 32 (0, 0)) (by (with_reducible repeat (first | refine blk_drewN ?_ _ | refine blk_drew ?_ | refine blk_alloc ?_ _)); exact BK122.out)) : gb123 ≠ gb122)); clear HO104; clear HO113; clear HO116; clear HO120; clear BK106; clear BK110; clear BK122; clear HB; have HO104 := n0_; have HO113 := n1_; have HO116 := n2_; have HO120 := n3_; have BK106 := n4_; have BK110 := n5_; have BK122 := n6_; have HB := n7_; have BK123 := n8_; have GW123 := n9_; have GE123 := n10_; have NB106_123 := n11_; have NB123_106 := n12_; have NB110_123 := n13_; have NB123_110 := n14_; have NB122_123 := n15_; have NB123_122 := n16_; clear n0_ n1_ n2_ n3_ n4_ n5_ n6_ n7_ n8_ n9_ n10_ n11_ n12_ n13_ n14_ n15_ n16_; clear hb hbox hg; obtain ⟨Ao27, co27, eo27⟩ := Kd.R_slice HO116.out; subst eo27; have hnb28 := NB122_106.out; have hnc28 := NB106_122.out; have hnb29 := NB122_110.out; have hnc29 := NB110_122.out; have hnb30 := NB122_123.out; have hnc30 := NB123_122.out; have hcz31_0 : w26.cell? ⟨gb122, 0, none⟩ = some (.slice none 0 0) := (blk_cell BK122.out 0).trans rfl; have hcz31_1 : w26.cell? ⟨gb122, 1, none⟩ = some (.int .i64 0) := (blk_cell BK122.out 1).trans rfl; have hfz31_0 := blk_frozen BK122.out 0; have hfz31_1 := blk_frozen BK122.out 1; obtain ⟨Ao32, co32, eo32⟩ := Kd.R_slice HO120.out; subst eo32; have hnb33 := NB123_106.out; have hnc33 := NB106_123.out; have hnb34 := NB123_110.out; have hnc34 := NB110_123.out; have hcz35_0 : w26.cell? ⟨gb123, 0, none⟩ = some (.slice none 0 0) := (blk_cell BK123.out 0).trans rfl; have hcz35_1 : w26.cell? ⟨gb123, 1, none⟩ = some (.int .i64 0) := (blk_cell BK123.out 1).trans rfl; have hfz35_0 := blk_frozen BK123.out 0; have hfz35_1 := blk_frozen BK123.out 1))
  (try simp only [Act.put, List.setIfInBounds_toArray, List.set_cons_zero, List.set_cons_succ])
  go_cut [68] (fun v68 wc => ∃ (kq : Nat) (x68_9 : Bool), v68 = .bool x68_9 ∧ Aside0 (parolelaw37_OddsRefuses.j0 kq true x68_9 = some r) ∧ Aside0 (kq ≤ k) ∧ Aside0 (Kd.R k71 71 wc w.heap.size (fun k_ => some k_ ≠ ((.slice Ao27 t114.length co27) : Value).ownBlock ∧ some k_ ≠ ((.slice Ao32 t118.length co32) : Value).ownBlock) (.slice Ao14 t102.length co14) t102) ∧ Aside0 (Kd.R k71 71 wc w.heap.size (fun k_ => some k_ ≠ ((.slice Ao14 t102.length co14) : Value).ownBlock ∧ some k_ ≠ ((.slice Ao32 t118.length co32) : Value).ownBlock) (.slice Ao27 t114.length co27) t114) ∧ Aside0 (Kd.R k71 71 wc w.heap.size (fun k_ => some k_ ≠ ((.slice Ao14 t102.length co14) : Value).ownBlock ∧ some k_ ≠ ((.slice Ao27 t114.length co27) : Value).ownBlock) (.slice Ao32 t118.length co32) t118) ∧ Aside0 (wc.heap[gb106]? = some (.cells #[(.slice Ao14 t102.length co14), .int .i64 t105] 32 (0, 0))) ∧ Aside0 (wc.heap[gb110]? = some (.cells #[.int .i64 t107, .int .i64 t108, .int .i64 t109] 38 (0, 0))) ∧ Aside0 (wc.heap[gb122]? = some (.cells #[(.slice Ao27 t114.length co27), .int .i64 t117] 32 (0, 0))) ∧ Aside0 (wc.heap[gb123]? = some (.cells #[(.slice Ao32 t118.length co32), .int .i64 t121] 32 (0, 0))) ∧ Aside0 (Below w.heap.size w wc))
  case first =>
   have H := HC10.out
   clear HC10
   by_cases c36 : a0 < 1
   ·rw [if_pos c36] at H
    have c36b0 : decide (a0 < 1) = true := decide_eq_true c36
    clear c36
    (first | rw [c36b0] | (simp only [i64_w, i32_w]; rw [c36b0]) | skip)
    by_cases c37 : ((t105 == 1) != true) = true
    ·rw [if_pos c37] at H
     have c37b0 : ((t105 == 1) != true) = true := c37
     (try (have c37b1 : decide ((t105 == 1) = true) = false := by simpa using c37))
     (try (have c37b2 : ((t105 == 1) == true) = false := by simpa using c37))
     (try (have c37b3 : ¬ ((t105 == 1) = true) := by simpa using c37))
     clear c37
     have H' := Aside0.mk H
     clear H
     have hnb38 := NB106_110.out
     have hnc38 := NB110_106.out
     have hnb39 := NB106_122.out
     have hnc39 := NB122_106.out
     have hnb40 := NB106_123.out
     have hnc40 := NB123_106.out
     have hcz41_0 : w26.cell? ⟨gb106, 0, none⟩ = some (.slice Ao14 t102.length co14) := (blk_cell BK106.out 0).trans rfl
     have hcz41_1 : w26.cell? ⟨gb106, 1, none⟩ = some (.int .i64 t105) := (blk_cell BK106.out 1).trans rfl
     have hfz41_0 := blk_frozen BK106.out 0
     have hfz41_1 := blk_frozen BK106.out 1
     go_wp2
     go_meet
     case rel => exact ⟨_, (true), (by first | rfl | (simp; done) | (simp [*]; done)), H', ⟨by first | omega | exact Nat.le_refl _⟩, ⟨by (with_reducible repeat (first | apply Kd.R_alloc | apply Kd.R_drewN | apply Kd.R_drew)); exact Kd.R_mono (Kd.R_far (p := ⟨gb123, 1, none⟩) (Kd.R_far (p := ⟨gb123, 0, none⟩) (Kd.R_far (p := ⟨gb122, 1, none⟩) (Kd.R_far (p := ⟨gb122, 0, none⟩) (Kd.R_types (Kd.R_types HO104.out BK122.out (by decide)) BK123.out (by decide)) (fun _ hk => hk.1.2) (.slice Ao27 t114.length co27)) (fun _ hk => hk.1.2) (.int .i64 t117)) (fun _ hk => hk.2) (.slice Ao32 t118.length co32)) (fun _ hk => hk.2) (.int .i64 t121)) (fun _ hk => ⟨hk.1.1.1.2, hk.1.1.2⟩)⟩, ⟨by (with_reducible repeat (first | apply Kd.R_alloc | apply Kd.R_drewN | apply Kd.R_drew)); exact Kd.R_mono (Kd.R_far (p := ⟨gb123, 1, none⟩) (Kd.R_far (p := ⟨gb123, 0, none⟩) (Kd.R_far (p := ⟨gb122, 1, none⟩) (Kd.R_far (p := ⟨gb122, 0, none⟩) (Kd.R_types (Kd.R_types HO116.out BK122.out (by decide)) BK123.out (by decide)) (fun _ hk => hk.1.2) (.slice Ao27 t114.length co27)) (fun _ hk => hk.1.2) (.int .i64 t117)) (fun _ hk => hk.2) (.slice Ao32 t118.length co32)) (fun _ hk => hk.2) (.int .i64 t121)) (fun _ hk => ⟨hk.1.1.1.1.2, hk.1.1.2⟩)⟩, ⟨by (with_reducible repeat (first | apply Kd.R_alloc | apply Kd.R_drewN | apply Kd.R_drew)); exact Kd.R_mono (Kd.R_far (p := ⟨gb123, 1, none⟩) (Kd.R_far (p := ⟨gb123, 0, none⟩) (Kd.R_far (p := ⟨gb122, 1, none⟩) (Kd.R_far (p := ⟨gb122, 0, none⟩) (Kd.R_types (Kd.R_types HO120.out BK122.out (by decide)) BK123.out (by decide)) (fun _ hk => hk.1.2) (.slice Ao27 t114.length co27)) (fun _ hk => hk.1.2) (.int .i64 t117)) (fun _ hk => hk.2) (.slice Ao32 t118.length co32)) (fun _ hk => hk.2) (.int .i64 t121)) (fun _ hk => ⟨hk.1.1.1.1.2, hk.1.1.2⟩)⟩, ⟨by (with_reducible repeat (first | refine blk_drewN ?_ _ | refine blk_drew ?_ | refine blk_alloc ?_ _)); refine blk_far ?_ NB106_123.out _; (with_reducible repeat (first | refine blk_drewN ?_ _ | refine blk_drew ?_ | refine blk_alloc ?_ _)); refine blk_far ?_ NB106_123.out _; (with_reducible repeat (first | refine blk_drewN ?_ _ | refine blk_drew ?_ | refine blk_alloc ?_ _)); refine blk_far ?_ NB106_122.out _; (with_reducible repeat (first | refine blk_drewN ?_ _ | refine blk_drew ?_ | refine blk_alloc ?_ _)); refine blk_far ?_ NB106_122.out _; (with_reducible repeat (first | refine blk_drewN ?_ _ | refine blk_drew ?_ | refine blk_alloc ?_ _)); exact BK106.out⟩, ⟨by (with_reducible repeat (first | refine blk_drewN ?_ _ | refine blk_drew ?_ | refine blk_alloc ?_ _)); refine blk_far ?_ NB110_123.out _; (with_reducible repeat (first | refine blk_drewN ?_ _ | refine blk_drew ?_ | refine blk_alloc ?_ _)); refine blk_far ?_ NB110_123.out _; (with_reducible repeat (first | refine blk_drewN ?_ _ | refine blk_drew ?_ | refine blk_alloc ?_ _)); refine blk_far ?_ NB110_122.out _; (with_reducible repeat (first | refine blk_drewN ?_ _ | refine blk_drew ?_ | refine blk_alloc ?_ _)); refine blk_far ?_ NB110_122.out _; (with_reducible repeat (first | refine blk_drewN ?_ _ | refine blk_drew ?_ | refine blk_alloc ?_ _)); exact BK110.out⟩, ⟨by (with_reducible repeat (first | refine blk_drewN ?_ _ | refine blk_drew ?_ | refine blk_alloc ?_ _)); refine blk_far ?_ NB122_123.out _; (with_reducible repeat (first | refine blk_drewN ?_ _ | refine blk_drew ?_ | refine blk_alloc ?_ _)); refine blk_far ?_ NB122_123.out _; (with_reducible repeat (first | refine blk_drewN ?_ _ | refine blk_drew ?_ | refine blk_alloc ?_ _)); refine blk_put (cs := #[.slice Ao27 t114.length co27, .int .i64 0]) ?_ 1 _ rfl; (with_reducible repeat (first | refine blk_drewN ?_ _ | refine blk_drew ?_ | refine blk_alloc ?_ _)); refine blk_put (cs := #[.slice none 0 0, .int .i64 0]) ?_ 0 _ rfl; (with_reducible repeat (first | refine blk_drewN ?_ _ | refine blk_drew ?_ | refine blk_alloc ?_ _)); exact BK122.out⟩, ⟨by (with_reducible repeat (first | refine blk_drewN ?_ _ | refine blk_drew ?_ | refine blk_alloc ?_ _)); refine blk_put (cs := #[.slice Ao32 t118.length co32, .int .i64 0]) ?_ 1 _ rfl; (with_reducible repeat (first | refine blk_drewN ?_ _ | refine blk_drew ?_ | refine blk_alloc ?_ _)); refine blk_put (cs := #[.slice none 0 0, .int .i64 0]) ?_ 0 _ rfl; (with_reducible repeat (first | refine blk_drewN ?_ _ | refine blk_drew ?_ | refine blk_alloc ?_ _)); refine blk_far ?_ NB123_122.out _; (with_reducible repeat (first | refine blk_drewN ?_ _ | refine blk_drew ?_ | refine blk_alloc ?_ _)); refine blk_far ?_ NB123_122.out _; (with_reducible repeat (first | refine blk_drewN ?_ _ | refine blk_drew ?_ | refine blk_alloc ?_ _)); exact BK123.out⟩, ⟨by repeat (first | (with_reducible first | exact HB.out | apply below_alloc | apply pw_below_drewN | apply below_drew1 | refine below_set ?_ GE106.out | refine below_set ?_ GE110.out | refine below_set ?_ GE122.out | refine below_set ?_ GE123.out) | exact HB.out)⟩⟩
    ·rw [if_neg c37] at H
     have c37b0 : ((t105 == 1) != true) = false := by simpa using c37
     (try (have c37b1 : decide ((t105 == 1) = true) = true := by simpa using c37))
     (try (have c37b2 : ((t105 == 1) == true) = true := by simpa using c37))
     clear c37
     by_cases c42 : a1 < 0
     ·rw [if_pos c42] at H
      have c42b0 : decide (a1 < 0) = true := decide_eq_true c42
      clear c42
      by_cases c43 : ((t109 == 1) != true) = true
      ·rw [if_pos c43] at H
       have c43b0 : ((t109 == 1) != true) = true := c43
       (try (have c43b1 : decide ((t109 == 1) = true) = false := by simpa using c43))
       (try (have c43b2 : ((t109 == 1) == true) = false := by simpa using c43))
       (try (have c43b3 : ¬ ((t109 == 1) = true) := by simpa using c43))
       clear c43
       have H' := Aside0.mk H
       clear H
       have hnb44 := NB106_110.out
       have hnc44 := NB110_106.out
       have hnb45 := NB106_122.out
       have hnc45 := NB122_106.out
       have hnb46 := NB106_123.out
       have hnc46 := NB123_106.out
       have hcz47_0 : w26.cell? ⟨gb106, 0, none⟩ = some (.slice Ao14 t102.length co14) := (blk_cell BK106.out 0).trans rfl
       have hcz47_1 : w26.cell? ⟨gb106, 1, none⟩ = some (.int .i64 t105) := (blk_cell BK106.out 1).trans rfl
       have hfz47_0 := blk_frozen BK106.out 0
       have hfz47_1 := blk_frozen BK106.out 1
       have hnb48 := NB110_122.out
       have hnc48 := NB122_110.out
       have hnb49 := NB110_123.out
       have hnc49 := NB123_110.out
       have hcz50_0 : w26.cell? ⟨gb110, 0, none⟩ = some (.int .i64 t107) := (blk_cell BK110.out 0).trans rfl
       have hcz50_1 : w26.cell? ⟨gb110, 1, none⟩ = some (.int .i64 t108) := (blk_cell BK110.out 1).trans rfl
       have hcz50_2 : w26.cell? ⟨gb110, 2, none⟩ = some (.int .i64 t109) := (blk_cell BK110.out 2).trans rfl
       have hfz50_0 := blk_frozen BK110.out 0
       have hfz50_1 := blk_frozen BK110.out 1
       have hfz50_2 := blk_frozen BK110.out 2
       go_wp2
       go_meet
       case rel => exact ⟨_, (true), (by first | rfl | (simp; done) | (simp [*]; done)), H', ⟨by first | omega | exact Nat.le_refl _⟩, ⟨by (with_reducible repeat (first | apply Kd.R_alloc | apply Kd.R_drewN | apply Kd.R_drew)); exact Kd.R_mono (Kd.R_far (p := ⟨gb123, 1, none⟩) (Kd.R_far (p := ⟨gb123, 0, none⟩) (Kd.R_far (p := ⟨gb122, 1, none⟩) (Kd.R_far (p := ⟨gb122, 0, none⟩) (Kd.R_types (Kd.R_types HO104.out BK122.out (by decide)) BK123.out (by decide)) (fun _ hk => hk.1.2) (.slice Ao27 t114.length co27)) (fun _ hk => hk.1.2) (.int .i64 t117)) (fun _ hk => hk.2) (.slice Ao32 t118.length co32)) (fun _ hk => hk.2) (.int .i64 t121)) (fun _ hk => ⟨hk.1.1.1.2, hk.1.1.2⟩)⟩, ⟨by (with_reducible repeat (first | apply Kd.R_alloc | apply Kd.R_drewN | apply Kd.R_drew)); exact Kd.R_mono (Kd.R_far (p := ⟨gb123, 1, none⟩) (Kd.R_far (p := ⟨gb123, 0, none⟩) (Kd.R_far (p := ⟨gb122, 1, none⟩) (Kd.R_far (p := ⟨gb122, 0, none⟩) (Kd.R_types (Kd.R_types HO116.out BK122.out (by decide)) BK123.out (by decide)) (fun _ hk => hk.1.2) (.slice Ao27 t114.length co27)) (fun _ hk => hk.1.2) (.int .i64 t117)) (fun _ hk => hk.2) (.slice Ao32 t118.length co32)) (fun _ hk => hk.2) (.int .i64 t121)) (fun _ hk => ⟨hk.1.1.1.1.2, hk.1.1.2⟩)⟩, ⟨by (with_reducible repeat (first | apply Kd.R_alloc | apply Kd.R_drewN | apply Kd.R_drew)); exact Kd.R_mono (Kd.R_far (p := ⟨gb123, 1, none⟩) (Kd.R_far (p := ⟨gb123, 0, none⟩) (Kd.R_far (p := ⟨gb122, 1, none⟩) (Kd.R_far (p := ⟨gb122, 0, none⟩) (Kd.R_types (Kd.R_types HO120.out BK122.out (by decide)) BK123.out (by decide)) (fun _ hk => hk.1.2) (.slice Ao27 t114.length co27)) (fun _ hk => hk.1.2) (.int .i64 t117)) (fun _ hk => hk.2) (.slice Ao32 t118.length co32)) (fun _ hk => hk.2) (.int .i64 t121)) (fun _ hk => ⟨hk.1.1.1.1.2, hk.1.1.2⟩)⟩, ⟨by (with_reducible repeat (first | refine blk_drewN ?_ _ | refine blk_drew ?_ | refine blk_alloc ?_ _)); refine blk_far ?_ NB106_123.out _; (with_reducible repeat (first | refine blk_drewN ?_ _ | refine blk_drew ?_ | refine blk_alloc ?_ _)); refine blk_far ?_ NB106_123.out _; (with_reducible repeat (first | refine blk_drewN ?_ _ | refine blk_drew ?_ | refine blk_alloc ?_ _)); refine blk_far ?_ NB106_122.out _; (with_reducible repeat (first | refine blk_drewN ?_ _ | refine blk_drew ?_ | refine blk_alloc ?_ _)); refine blk_far ?_ NB106_122.out _; (with_reducible repeat (first | refine blk_drewN ?_ _ | refine blk_drew ?_ | refine blk_alloc ?_ _)); exact BK106.out⟩, ⟨by (with_reducible repeat (first | refine blk_drewN ?_ _ | refine blk_drew ?_ | refine blk_alloc ?_ _)); refine blk_far ?_ NB110_123.out _; (with_reducible repeat (first | refine blk_drewN ?_ _ | refine blk_drew ?_ | refine blk_alloc ?_ _)); refine blk_far ?_ NB110_123.out _; (with_reducible repeat (first | refine blk_drewN ?_ _ | refine blk_drew ?_ | refine blk_alloc ?_ _)); refine blk_far ?_ NB110_122.out _; (with_reducible repeat (first | refine blk_drewN ?_ _ | refine blk_drew ?_ | refine blk_alloc ?_ _)); refine blk_far ?_ NB110_122.out _; (with_reducible repeat (first | refine blk_drewN ?_ _ | refine blk_drew ?_ | refine blk_alloc ?_ _)); exact BK110.out⟩, ⟨by (with_reducible repeat (first | refine blk_drewN ?_ _ | refine blk_drew ?_ | refine blk_alloc ?_ _)); refine blk_far ?_ NB122_123.out _; (with_reducible repeat (first | refine blk_drewN ?_ _ | refine blk_drew ?_ | refine blk_alloc ?_ _)); refine blk_far ?_ NB122_123.out _; (with_reducible repeat (first | refine blk_drewN ?_ _ | refine blk_drew ?_ | refine blk_alloc ?_ _)); refine blk_put (cs := #[.slice Ao27 t114.length co27, .int .i64 0]) ?_ 1 _ rfl; (with_reducible repeat (first | refine blk_drewN ?_ _ | refine blk_drew ?_ | refine blk_alloc ?_ _)); refine blk_put (cs := #[.slice none 0 0, .int .i64 0]) ?_ 0 _ rfl; (with_reducible repeat (first | refine blk_drewN ?_ _ | refine blk_drew ?_ | refine blk_alloc ?_ _)); exact BK122.out⟩, ⟨by (with_reducible repeat (first | refine blk_drewN ?_ _ | refine blk_drew ?_ | refine blk_alloc ?_ _)); refine blk_put (cs := #[.slice Ao32 t118.length co32, .int .i64 0]) ?_ 1 _ rfl; (with_reducible repeat (first | refine blk_drewN ?_ _ | refine blk_drew ?_ | refine blk_alloc ?_ _)); refine blk_put (cs := #[.slice none 0 0, .int .i64 0]) ?_ 0 _ rfl; (with_reducible repeat (first | refine blk_drewN ?_ _ | refine blk_drew ?_ | refine blk_alloc ?_ _)); refine blk_far ?_ NB123_122.out _; (with_reducible repeat (first | refine blk_drewN ?_ _ | refine blk_drew ?_ | refine blk_alloc ?_ _)); refine blk_far ?_ NB123_122.out _; (with_reducible repeat (first | refine blk_drewN ?_ _ | refine blk_drew ?_ | refine blk_alloc ?_ _)); exact BK123.out⟩, ⟨by repeat (first | (with_reducible first | exact HB.out | apply below_alloc | apply pw_below_drewN | apply below_drew1 | refine below_set ?_ GE106.out | refine below_set ?_ GE110.out | refine below_set ?_ GE122.out | refine below_set ?_ GE123.out) | exact HB.out)⟩⟩
      ·rw [if_neg c43] at H
       have c43b0 : ((t109 == 1) != true) = false := by simpa using c43
       (try (have c43b1 : decide ((t109 == 1) = true) = true := by simpa using c43))
       (try (have c43b2 : ((t109 == 1) == true) = true := by simpa using c43))
       clear c43
       by_cases c51 : ((t117 == 2) != ((Int.tmod a2 2) == 0)) = true
       ·rw [if_pos c51] at H
        have c51b0 : ((t117 == 2) != ((Int.tmod a2 2) == 0)) = true := c51
        (try (have c51b1 : decide ((t117 == 2) = ((Int.tmod a2 2) == 0)) = false := by simpa using c51))
        (try (have c51b2 : ((t117 == 2) == ((Int.tmod a2 2) == 0)) = false := by simpa using c51))
        (try (have c51b3 : ¬ ((t117 == 2) = ((Int.tmod a2 2) == 0)) := by simpa using c51))
        clear c51
        have H' := Aside0.mk H
        clear H
        have hnb52 := NB106_110.out
        have hnc52 := NB110_106.out
        have hnb53 := NB106_122.out
        have hnc53 := NB122_106.out
        have hnb54 := NB106_123.out
        have hnc54 := NB123_106.out
        have hcz55_0 : w26.cell? ⟨gb106, 0, none⟩ = some (.slice Ao14 t102.length co14) := (blk_cell BK106.out 0).trans rfl
        have hcz55_1 : w26.cell? ⟨gb106, 1, none⟩ = some (.int .i64 t105) := (blk_cell BK106.out 1).trans rfl
        have hfz55_0 := blk_frozen BK106.out 0
        have hfz55_1 := blk_frozen BK106.out 1
        have hnb56 := NB110_122.out
        have hnc56 := NB122_110.out
        have hnb57 := NB110_123.out
        have hnc57 := NB123_110.out
        have hcz58_0 : w26.cell? ⟨gb110, 0, none⟩ = some (.int .i64 t107) := (blk_cell BK110.out 0).trans rfl
        have hcz58_1 : w26.cell? ⟨gb110, 1, none⟩ = some (.int .i64 t108) := (blk_cell BK110.out 1).trans rfl
        have hcz58_2 : w26.cell? ⟨gb110, 2, none⟩ = some (.int .i64 t109) := (blk_cell BK110.out 2).trans rfl
        have hfz58_0 := blk_frozen BK110.out 0
        have hfz58_1 := blk_frozen BK110.out 1
        have hfz58_2 := blk_frozen BK110.out 2
        have hnb59 := NB122_123.out
        have hnc59 := NB123_122.out
        have hcz60_0 : w26.cell? ⟨gb122, 0, none⟩ = some (.slice none 0 0) := (blk_cell BK122.out 0).trans rfl
        have hcz60_1 : w26.cell? ⟨gb122, 1, none⟩ = some (.int .i64 0) := (blk_cell BK122.out 1).trans rfl
        have hfz60_0 := blk_frozen BK122.out 0
        have hfz60_1 := blk_frozen BK122.out 1
        go_wp2
        go_meet
        case rel => exact ⟨_, (true), (by first | rfl | (simp; done) | (simp [*]; done)), H', ⟨by first | omega | exact Nat.le_refl _⟩, ⟨by (with_reducible repeat (first | apply Kd.R_alloc | apply Kd.R_drewN | apply Kd.R_drew)); exact Kd.R_mono (Kd.R_far (p := ⟨gb123, 1, none⟩) (Kd.R_far (p := ⟨gb123, 0, none⟩) (Kd.R_far (p := ⟨gb122, 1, none⟩) (Kd.R_far (p := ⟨gb122, 0, none⟩) (Kd.R_types (Kd.R_types HO104.out BK122.out (by decide)) BK123.out (by decide)) (fun _ hk => hk.1.2) (.slice Ao27 t114.length co27)) (fun _ hk => hk.1.2) (.int .i64 t117)) (fun _ hk => hk.2) (.slice Ao32 t118.length co32)) (fun _ hk => hk.2) (.int .i64 t121)) (fun _ hk => ⟨hk.1.1.1.2, hk.1.1.2⟩)⟩, ⟨by (with_reducible repeat (first | apply Kd.R_alloc | apply Kd.R_drewN | apply Kd.R_drew)); exact Kd.R_mono (Kd.R_far (p := ⟨gb123, 1, none⟩) (Kd.R_far (p := ⟨gb123, 0, none⟩) (Kd.R_far (p := ⟨gb122, 1, none⟩) (Kd.R_far (p := ⟨gb122, 0, none⟩) (Kd.R_types (Kd.R_types HO116.out BK122.out (by decide)) BK123.out (by decide)) (fun _ hk => hk.1.2) (.slice Ao27 t114.length co27)) (fun _ hk => hk.1.2) (.int .i64 t117)) (fun _ hk => hk.2) (.slice Ao32 t118.length co32)) (fun _ hk => hk.2) (.int .i64 t121)) (fun _ hk => ⟨hk.1.1.1.1.2, hk.1.1.2⟩)⟩, ⟨by (with_reducible repeat (first | apply Kd.R_alloc | apply Kd.R_drewN | apply Kd.R_drew)); exact Kd.R_mono (Kd.R_far (p := ⟨gb123, 1, none⟩) (Kd.R_far (p := ⟨gb123, 0, none⟩) (Kd.R_far (p := ⟨gb122, 1, none⟩) (Kd.R_far (p := ⟨gb122, 0, none⟩) (Kd.R_types (Kd.R_types HO120.out BK122.out (by decide)) BK123.out (by decide)) (fun _ hk => hk.1.2) (.slice Ao27 t114.length co27)) (fun _ hk => hk.1.2) (.int .i64 t117)) (fun _ hk => hk.2) (.slice Ao32 t118.length co32)) (fun _ hk => hk.2) (.int .i64 t121)) (fun _ hk => ⟨hk.1.1.1.1.2, hk.1.1.2⟩)⟩, ⟨by (with_reducible repeat (first | refine blk_drewN ?_ _ | refine blk_drew ?_ | refine blk_alloc ?_ _)); refine blk_far ?_ NB106_123.out _; (with_reducible repeat (first | refine blk_drewN ?_ _ | refine blk_drew ?_ | refine blk_alloc ?_ _)); refine blk_far ?_ NB106_123.out _; (with_reducible repeat (first | refine blk_drewN ?_ _ | refine blk_drew ?_ | refine blk_alloc ?_ _)); refine blk_far ?_ NB106_122.out _; (with_reducible repeat (first | refine blk_drewN ?_ _ | refine blk_drew ?_ | refine blk_alloc ?_ _)); refine blk_far ?_ NB106_122.out _; (with_reducible repeat (first | refine blk_drewN ?_ _ | refine blk_drew ?_ | refine blk_alloc ?_ _)); exact BK106.out⟩, ⟨by (with_reducible repeat (first | refine blk_drewN ?_ _ | refine blk_drew ?_ | refine blk_alloc ?_ _)); refine blk_far ?_ NB110_123.out _; (with_reducible repeat (first | refine blk_drewN ?_ _ | refine blk_drew ?_ | refine blk_alloc ?_ _)); refine blk_far ?_ NB110_123.out _; (with_reducible repeat (first | refine blk_drewN ?_ _ | refine blk_drew ?_ | refine blk_alloc ?_ _)); refine blk_far ?_ NB110_122.out _; (with_reducible repeat (first | refine blk_drewN ?_ _ | refine blk_drew ?_ | refine blk_alloc ?_ _)); refine blk_far ?_ NB110_122.out _; (with_reducible repeat (first | refine blk_drewN ?_ _ | refine blk_drew ?_ | refine blk_alloc ?_ _)); exact BK110.out⟩, ⟨by (with_reducible repeat (first | refine blk_drewN ?_ _ | refine blk_drew ?_ | refine blk_alloc ?_ _)); refine blk_far ?_ NB122_123.out _; (with_reducible repeat (first | refine blk_drewN ?_ _ | refine blk_drew ?_ | refine blk_alloc ?_ _)); refine blk_far ?_ NB122_123.out _; (with_reducible repeat (first | refine blk_drewN ?_ _ | refine blk_drew ?_ | refine blk_alloc ?_ _)); refine blk_put (cs := #[.slice Ao27 t114.length co27, .int .i64 0]) ?_ 1 _ rfl; (with_reducible repeat (first | refine blk_drewN ?_ _ | refine blk_drew ?_ | refine blk_alloc ?_ _)); refine blk_put (cs := #[.slice none 0 0, .int .i64 0]) ?_ 0 _ rfl; (with_reducible repeat (first | refine blk_drewN ?_ _ | refine blk_drew ?_ | refine blk_alloc ?_ _)); exact BK122.out⟩, ⟨by (with_reducible repeat (first | refine blk_drewN ?_ _ | refine blk_drew ?_ | refine blk_alloc ?_ _)); refine blk_put (cs := #[.slice Ao32 t118.length co32, .int .i64 0]) ?_ 1 _ rfl; (with_reducible repeat (first | refine blk_drewN ?_ _ | refine blk_drew ?_ | refine blk_alloc ?_ _)); refine blk_put (cs := #[.slice none 0 0, .int .i64 0]) ?_ 0 _ rfl; (with_reducible repeat (first | refine blk_drewN ?_ _ | refine blk_drew ?_ | refine blk_alloc ?_ _)); refine blk_far ?_ NB123_122.out _; (with_reducible repeat (first | refine blk_drewN ?_ _ | refine blk_drew ?_ | refine blk_alloc ?_ _)); refine blk_far ?_ NB123_122.out _; (with_reducible repeat (first | refine blk_drewN ?_ _ | refine blk_drew ?_ | refine blk_alloc ?_ _)); exact BK123.out⟩, ⟨by repeat (first | (with_reducible first | exact HB.out | apply below_alloc | apply pw_below_drewN | apply below_drew1 | refine below_set ?_ GE106.out | refine below_set ?_ GE110.out | refine below_set ?_ GE122.out | refine below_set ?_ GE123.out) | exact HB.out)⟩⟩
       ·rw [if_neg c51] at H
        have c51b0 : ((t117 == 2) != ((Int.tmod a2 2) == 0)) = false := by simpa using c51
        (try (have c51b1 : decide ((t117 == 2) = ((Int.tmod a2 2) == 0)) = true := by simpa using c51))
        (try (have c51b2 : ((t117 == 2) == ((Int.tmod a2 2) == 0)) = true := by simpa using c51))
        clear c51
        have H' := Aside0.mk H
        clear H
        have hnb61 := NB106_110.out
        have hnc61 := NB110_106.out
        have hnb62 := NB106_122.out
        have hnc62 := NB122_106.out
        have hnb63 := NB106_123.out
        have hnc63 := NB123_106.out
        have hcz64_0 : w26.cell? ⟨gb106, 0, none⟩ = some (.slice Ao14 t102.length co14) := (blk_cell BK106.out 0).trans rfl
        have hcz64_1 : w26.cell? ⟨gb106, 1, none⟩ = some (.int .i64 t105) := (blk_cell BK106.out 1).trans rfl
        have hfz64_0 := blk_frozen BK106.out 0
        have hfz64_1 := blk_frozen BK106.out 1
        have hnb65 := NB110_122.out
        have hnc65 := NB122_110.out
        have hnb66 := NB110_123.out
        have hnc66 := NB123_110.out
        have hcz67_0 : w26.cell? ⟨gb110, 0, none⟩ = some (.int .i64 t107) := (blk_cell BK110.out 0).trans rfl
        have hcz67_1 : w26.cell? ⟨gb110, 1, none⟩ = some (.int .i64 t108) := (blk_cell BK110.out 1).trans rfl
        have hcz67_2 : w26.cell? ⟨gb110, 2, none⟩ = some (.int .i64 t109) := (blk_cell BK110.out 2).trans rfl
        have hfz67_0 := blk_frozen BK110.out 0
        have hfz67_1 := blk_frozen BK110.out 1
        have hfz67_2 := blk_frozen BK110.out 2
        have hnb68 := NB122_123.out
        have hnc68 := NB123_122.out
        have hcz69_0 : w26.cell? ⟨gb122, 0, none⟩ = some (.slice none 0 0) := (blk_cell BK122.out 0).trans rfl
        have hcz69_1 : w26.cell? ⟨gb122, 1, none⟩ = some (.int .i64 0) := (blk_cell BK122.out 1).trans rfl
        have hfz69_0 := blk_frozen BK122.out 0
        have hfz69_1 := blk_frozen BK122.out 1
        have hcz70_0 : w26.cell? ⟨gb123, 0, none⟩ = some (.slice none 0 0) := (blk_cell BK123.out 0).trans rfl
        have hcz70_1 : w26.cell? ⟨gb123, 1, none⟩ = some (.int .i64 0) := (blk_cell BK123.out 1).trans rfl
        have hfz70_0 := blk_frozen BK123.out 0
        have hfz70_1 := blk_frozen BK123.out 1
        go_wp2
        go_meet
        case rel => exact ⟨_, ((t121 != 2)), (by first | rfl | (simp; done) | (simp [*]; done)), H', ⟨by first | omega | exact Nat.le_refl _⟩, ⟨by (with_reducible repeat (first | apply Kd.R_alloc | apply Kd.R_drewN | apply Kd.R_drew)); exact Kd.R_mono (Kd.R_far (p := ⟨gb123, 1, none⟩) (Kd.R_far (p := ⟨gb123, 0, none⟩) (Kd.R_far (p := ⟨gb122, 1, none⟩) (Kd.R_far (p := ⟨gb122, 0, none⟩) (Kd.R_types (Kd.R_types HO104.out BK122.out (by decide)) BK123.out (by decide)) (fun _ hk => hk.1.2) (.slice Ao27 t114.length co27)) (fun _ hk => hk.1.2) (.int .i64 t117)) (fun _ hk => hk.2) (.slice Ao32 t118.length co32)) (fun _ hk => hk.2) (.int .i64 t121)) (fun _ hk => ⟨hk.1.1.1.2, hk.1.1.2⟩)⟩, ⟨by (with_reducible repeat (first | apply Kd.R_alloc | apply Kd.R_drewN | apply Kd.R_drew)); exact Kd.R_mono (Kd.R_far (p := ⟨gb123, 1, none⟩) (Kd.R_far (p := ⟨gb123, 0, none⟩) (Kd.R_far (p := ⟨gb122, 1, none⟩) (Kd.R_far (p := ⟨gb122, 0, none⟩) (Kd.R_types (Kd.R_types HO116.out BK122.out (by decide)) BK123.out (by decide)) (fun _ hk => hk.1.2) (.slice Ao27 t114.length co27)) (fun _ hk => hk.1.2) (.int .i64 t117)) (fun _ hk => hk.2) (.slice Ao32 t118.length co32)) (fun _ hk => hk.2) (.int .i64 t121)) (fun _ hk => ⟨hk.1.1.1.1.2, hk.1.1.2⟩)⟩, ⟨by (with_reducible repeat (first | apply Kd.R_alloc | apply Kd.R_drewN | apply Kd.R_drew)); exact Kd.R_mono (Kd.R_far (p := ⟨gb123, 1, none⟩) (Kd.R_far (p := ⟨gb123, 0, none⟩) (Kd.R_far (p := ⟨gb122, 1, none⟩) (Kd.R_far (p := ⟨gb122, 0, none⟩) (Kd.R_types (Kd.R_types HO120.out BK122.out (by decide)) BK123.out (by decide)) (fun _ hk => hk.1.2) (.slice Ao27 t114.length co27)) (fun _ hk => hk.1.2) (.int .i64 t117)) (fun _ hk => hk.2) (.slice Ao32 t118.length co32)) (fun _ hk => hk.2) (.int .i64 t121)) (fun _ hk => ⟨hk.1.1.1.1.2, hk.1.1.2⟩)⟩, ⟨by (with_reducible repeat (first | refine blk_drewN ?_ _ | refine blk_drew ?_ | refine blk_alloc ?_ _)); refine blk_far ?_ NB106_123.out _; (with_reducible repeat (first | refine blk_drewN ?_ _ | refine blk_drew ?_ | refine blk_alloc ?_ _)); refine blk_far ?_ NB106_123.out _; (with_reducible repeat (first | refine blk_drewN ?_ _ | refine blk_drew ?_ | refine blk_alloc ?_ _)); refine blk_far ?_ NB106_122.out _; (with_reducible repeat (first | refine blk_drewN ?_ _ | refine blk_drew ?_ | refine blk_alloc ?_ _)); refine blk_far ?_ NB106_122.out _; (with_reducible repeat (first | refine blk_drewN ?_ _ | refine blk_drew ?_ | refine blk_alloc ?_ _)); exact BK106.out⟩, ⟨by (with_reducible repeat (first | refine blk_drewN ?_ _ | refine blk_drew ?_ | refine blk_alloc ?_ _)); refine blk_far ?_ NB110_123.out _; (with_reducible repeat (first | refine blk_drewN ?_ _ | refine blk_drew ?_ | refine blk_alloc ?_ _)); refine blk_far ?_ NB110_123.out _; (with_reducible repeat (first | refine blk_drewN ?_ _ | refine blk_drew ?_ | refine blk_alloc ?_ _)); refine blk_far ?_ NB110_122.out _; (with_reducible repeat (first | refine blk_drewN ?_ _ | refine blk_drew ?_ | refine blk_alloc ?_ _)); refine blk_far ?_ NB110_122.out _; (with_reducible repeat (first | refine blk_drewN ?_ _ | refine blk_drew ?_ | refine blk_alloc ?_ _)); exact BK110.out⟩, ⟨by (with_reducible repeat (first | refine blk_drewN ?_ _ | refine blk_drew ?_ | refine blk_alloc ?_ _)); refine blk_far ?_ NB122_123.out _; (with_reducible repeat (first | refine blk_drewN ?_ _ | refine blk_drew ?_ | refine blk_alloc ?_ _)); refine blk_far ?_ NB122_123.out _; (with_reducible repeat (first | refine blk_drewN ?_ _ | refine blk_drew ?_ | refine blk_alloc ?_ _)); refine blk_put (cs := #[.slice Ao27 t114.length co27, .int .i64 0]) ?_ 1 _ rfl; (with_reducible repeat (first | refine blk_drewN ?_ _ | refine blk_drew ?_ | refine blk_alloc ?_ _)); refine blk_put (cs := #[.slice none 0 0, .int .i64 0]) ?_ 0 _ rfl; (with_reducible repeat (first | refine blk_drewN ?_ _ | refine blk_drew ?_ | refine blk_alloc ?_ _)); exact BK122.out⟩, ⟨by (with_reducible repeat (first | refine blk_drewN ?_ _ | refine blk_drew ?_ | refine blk_alloc ?_ _)); refine blk_put (cs := #[.slice Ao32 t118.length co32, .int .i64 0]) ?_ 1 _ rfl; (with_reducible repeat (first | refine blk_drewN ?_ _ | refine blk_drew ?_ | refine blk_alloc ?_ _)); refine blk_put (cs := #[.slice none 0 0, .int .i64 0]) ?_ 0 _ rfl; (with_reducible repeat (first | refine blk_drewN ?_ _ | refine blk_drew ?_ | refine blk_alloc ?_ _)); refine blk_far ?_ NB123_122.out _; (with_reducible repeat (first | refine blk_drewN ?_ _ | refine blk_drew ?_ | refine blk_alloc ?_ _)); refine blk_far ?_ NB123_122.out _; (with_reducible repeat (first | refine blk_drewN ?_ _ | refine blk_drew ?_ | refine blk_alloc ?_ _)); exact BK123.out⟩, ⟨by repeat (first | (with_reducible first | exact HB.out | apply below_alloc | apply pw_below_drewN | apply below_drew1 | refine below_set ?_ GE106.out | refine below_set ?_ GE110.out | refine below_set ?_ GE122.out | refine below_set ?_ GE123.out) | exact HB.out)⟩⟩
     ·rw [if_neg c42] at H
      have c42b0 : decide (a1 < 0) = false := decide_eq_false c42
      clear c42
      by_cases c71 : ((t109 == 1) != (decide (a1 > 1073741824))) = true
      ·rw [if_pos c71] at H
       have c71b0 : ((t109 == 1) != (decide (a1 > 1073741824))) = true := c71
       (try (have c71b1 : decide ((t109 == 1) = (decide (a1 > 1073741824))) = false := by simpa using c71))
       (try (have c71b2 : ((t109 == 1) == (decide (a1 > 1073741824))) = false := by simpa using c71))
       (try (have c71b3 : ¬ ((t109 == 1) = (decide (a1 > 1073741824))) := by simpa using c71))
       clear c71
       have H' := Aside0.mk H
       clear H
       have hnb72 := NB106_110.out
       have hnc72 := NB110_106.out
       have hnb73 := NB106_122.out
       have hnc73 := NB122_106.out
       have hnb74 := NB106_123.out
       have hnc74 := NB123_106.out
       have hcz75_0 : w26.cell? ⟨gb106, 0, none⟩ = some (.slice Ao14 t102.length co14) := (blk_cell BK106.out 0).trans rfl
       have hcz75_1 : w26.cell? ⟨gb106, 1, none⟩ = some (.int .i64 t105) := (blk_cell BK106.out 1).trans rfl
       have hfz75_0 := blk_frozen BK106.out 0
       have hfz75_1 := blk_frozen BK106.out 1
       have hnb76 := NB110_122.out
       have hnc76 := NB122_110.out
       have hnb77 := NB110_123.out
       have hnc77 := NB123_110.out
       have hcz78_0 : w26.cell? ⟨gb110, 0, none⟩ = some (.int .i64 t107) := (blk_cell BK110.out 0).trans rfl
       have hcz78_1 : w26.cell? ⟨gb110, 1, none⟩ = some (.int .i64 t108) := (blk_cell BK110.out 1).trans rfl
       have hcz78_2 : w26.cell? ⟨gb110, 2, none⟩ = some (.int .i64 t109) := (blk_cell BK110.out 2).trans rfl
       have hfz78_0 := blk_frozen BK110.out 0
       have hfz78_1 := blk_frozen BK110.out 1
       have hfz78_2 := blk_frozen BK110.out 2
       go_wp2
       go_meet
       case rel => exact ⟨_, (true), (by first | rfl | (simp; done) | (simp [*]; done)), H', ⟨by first | omega | exact Nat.le_refl _⟩, ⟨by (with_reducible repeat (first | apply Kd.R_alloc | apply Kd.R_drewN | apply Kd.R_drew)); exact Kd.R_mono (Kd.R_far (p := ⟨gb123, 1, none⟩) (Kd.R_far (p := ⟨gb123, 0, none⟩) (Kd.R_far (p := ⟨gb122, 1, none⟩) (Kd.R_far (p := ⟨gb122, 0, none⟩) (Kd.R_types (Kd.R_types HO104.out BK122.out (by decide)) BK123.out (by decide)) (fun _ hk => hk.1.2) (.slice Ao27 t114.length co27)) (fun _ hk => hk.1.2) (.int .i64 t117)) (fun _ hk => hk.2) (.slice Ao32 t118.length co32)) (fun _ hk => hk.2) (.int .i64 t121)) (fun _ hk => ⟨hk.1.1.1.2, hk.1.1.2⟩)⟩, ⟨by (with_reducible repeat (first | apply Kd.R_alloc | apply Kd.R_drewN | apply Kd.R_drew)); exact Kd.R_mono (Kd.R_far (p := ⟨gb123, 1, none⟩) (Kd.R_far (p := ⟨gb123, 0, none⟩) (Kd.R_far (p := ⟨gb122, 1, none⟩) (Kd.R_far (p := ⟨gb122, 0, none⟩) (Kd.R_types (Kd.R_types HO116.out BK122.out (by decide)) BK123.out (by decide)) (fun _ hk => hk.1.2) (.slice Ao27 t114.length co27)) (fun _ hk => hk.1.2) (.int .i64 t117)) (fun _ hk => hk.2) (.slice Ao32 t118.length co32)) (fun _ hk => hk.2) (.int .i64 t121)) (fun _ hk => ⟨hk.1.1.1.1.2, hk.1.1.2⟩)⟩, ⟨by (with_reducible repeat (first | apply Kd.R_alloc | apply Kd.R_drewN | apply Kd.R_drew)); exact Kd.R_mono (Kd.R_far (p := ⟨gb123, 1, none⟩) (Kd.R_far (p := ⟨gb123, 0, none⟩) (Kd.R_far (p := ⟨gb122, 1, none⟩) (Kd.R_far (p := ⟨gb122, 0, none⟩) (Kd.R_types (Kd.R_types HO120.out BK122.out (by decide)) BK123.out (by decide)) (fun _ hk => hk.1.2) (.slice Ao27 t114.length co27)) (fun _ hk => hk.1.2) (.int .i64 t117)) (fun _ hk => hk.2) (.slice Ao32 t118.length co32)) (fun _ hk => hk.2) (.int .i64 t121)) (fun _ hk => ⟨hk.1.1.1.1.2, hk.1.1.2⟩)⟩, ⟨by (with_reducible repeat (first | refine blk_drewN ?_ _ | refine blk_drew ?_ | refine blk_alloc ?_ _)); refine blk_far ?_ NB106_123.out _; (with_reducible repeat (first | refine blk_drewN ?_ _ | refine blk_drew ?_ | refine blk_alloc ?_ _)); refine blk_far ?_ NB106_123.out _; (with_reducible repeat (first | refine blk_drewN ?_ _ | refine blk_drew ?_ | refine blk_alloc ?_ _)); refine blk_far ?_ NB106_122.out _; (with_reducible repeat (first | refine blk_drewN ?_ _ | refine blk_drew ?_ | refine blk_alloc ?_ _)); refine blk_far ?_ NB106_122.out _; (with_reducible repeat (first | refine blk_drewN ?_ _ | refine blk_drew ?_ | refine blk_alloc ?_ _)); exact BK106.out⟩, ⟨by (with_reducible repeat (first | refine blk_drewN ?_ _ | refine blk_drew ?_ | refine blk_alloc ?_ _)); refine blk_far ?_ NB110_123.out _; (with_reducible repeat (first | refine blk_drewN ?_ _ | refine blk_drew ?_ | refine blk_alloc ?_ _)); refine blk_far ?_ NB110_123.out _; (with_reducible repeat (first | refine blk_drewN ?_ _ | refine blk_drew ?_ | refine blk_alloc ?_ _)); refine blk_far ?_ NB110_122.out _; (with_reducible repeat (first | refine blk_drewN ?_ _ | refine blk_drew ?_ | refine blk_alloc ?_ _)); refine blk_far ?_ NB110_122.out _; (with_reducible repeat (first | refine blk_drewN ?_ _ | refine blk_drew ?_ | refine blk_alloc ?_ _)); exact BK110.out⟩, ⟨by (with_reducible repeat (first | refine blk_drewN ?_ _ | refine blk_drew ?_ | refine blk_alloc ?_ _)); refine blk_far ?_ NB122_123.out _; (with_reducible repeat (first | refine blk_drewN ?_ _ | refine blk_drew ?_ | refine blk_alloc ?_ _)); refine blk_far ?_ NB122_123.out _; (with_reducible repeat (first | refine blk_drewN ?_ _ | refine blk_drew ?_ | refine blk_alloc ?_ _)); refine blk_put (cs := #[.slice Ao27 t114.length co27, .int .i64 0]) ?_ 1 _ rfl; (with_reducible repeat (first | refine blk_drewN ?_ _ | refine blk_drew ?_ | refine blk_alloc ?_ _)); refine blk_put (cs := #[.slice none 0 0, .int .i64 0]) ?_ 0 _ rfl; (with_reducible repeat (first | refine blk_drewN ?_ _ | refine blk_drew ?_ | refine blk_alloc ?_ _)); exact BK122.out⟩, ⟨by (with_reducible repeat (first | refine blk_drewN ?_ _ | refine blk_drew ?_ | refine blk_alloc ?_ _)); refine blk_put (cs := #[.slice Ao32 t118.length co32, .int .i64 0]) ?_ 1 _ rfl; (with_reducible repeat (first | refine blk_drewN ?_ _ | refine blk_drew ?_ | refine blk_alloc ?_ _)); refine blk_put (cs := #[.slice none 0 0, .int .i64 0]) ?_ 0 _ rfl; (with_reducible repeat (first | refine blk_drewN ?_ _ | refine blk_drew ?_ | refine blk_alloc ?_ _)); refine blk_far ?_ NB123_122.out _; (with_reducible repeat (first | refine blk_drewN ?_ _ | refine blk_drew ?_ | refine blk_alloc ?_ _)); refine blk_far ?_ NB123_122.out _; (with_reducible repeat (first | refine blk_drewN ?_ _ | refine blk_drew ?_ | refine blk_alloc ?_ _)); exact BK123.out⟩, ⟨by repeat (first | (with_reducible first | exact HB.out | apply below_alloc | apply pw_below_drewN | apply below_drew1 | refine below_set ?_ GE106.out | refine below_set ?_ GE110.out | refine below_set ?_ GE122.out | refine below_set ?_ GE123.out) | exact HB.out)⟩⟩
      ·rw [if_neg c71] at H
       have c71b0 : ((t109 == 1) != (decide (a1 > 1073741824))) = false := by simpa using c71
       (try (have c71b1 : decide ((t109 == 1) = (decide (a1 > 1073741824))) = true := by simpa using c71))
       (try (have c71b2 : ((t109 == 1) == (decide (a1 > 1073741824))) = true := by simpa using c71))
       clear c71
       by_cases c79 : ((t117 == 2) != ((Int.tmod a2 2) == 0)) = true
       ·rw [if_pos c79] at H
        have c79b0 : ((t117 == 2) != ((Int.tmod a2 2) == 0)) = true := c79
        (try (have c79b1 : decide ((t117 == 2) = ((Int.tmod a2 2) == 0)) = false := by simpa using c79))
        (try (have c79b2 : ((t117 == 2) == ((Int.tmod a2 2) == 0)) = false := by simpa using c79))
        (try (have c79b3 : ¬ ((t117 == 2) = ((Int.tmod a2 2) == 0)) := by simpa using c79))
        clear c79
        have H' := Aside0.mk H
        clear H
        have hnb80 := NB106_110.out
        have hnc80 := NB110_106.out
        have hnb81 := NB106_122.out
        have hnc81 := NB122_106.out
        have hnb82 := NB106_123.out
        have hnc82 := NB123_106.out
        have hcz83_0 : w26.cell? ⟨gb106, 0, none⟩ = some (.slice Ao14 t102.length co14) := (blk_cell BK106.out 0).trans rfl
        have hcz83_1 : w26.cell? ⟨gb106, 1, none⟩ = some (.int .i64 t105) := (blk_cell BK106.out 1).trans rfl
        have hfz83_0 := blk_frozen BK106.out 0
        have hfz83_1 := blk_frozen BK106.out 1
        have hnb84 := NB110_122.out
        have hnc84 := NB122_110.out
        have hnb85 := NB110_123.out
        have hnc85 := NB123_110.out
        have hcz86_0 : w26.cell? ⟨gb110, 0, none⟩ = some (.int .i64 t107) := (blk_cell BK110.out 0).trans rfl
        have hcz86_1 : w26.cell? ⟨gb110, 1, none⟩ = some (.int .i64 t108) := (blk_cell BK110.out 1).trans rfl
        have hcz86_2 : w26.cell? ⟨gb110, 2, none⟩ = some (.int .i64 t109) := (blk_cell BK110.out 2).trans rfl
        have hfz86_0 := blk_frozen BK110.out 0
        have hfz86_1 := blk_frozen BK110.out 1
        have hfz86_2 := blk_frozen BK110.out 2
        have hnb87 := NB122_123.out
        have hnc87 := NB123_122.out
        have hcz88_0 : w26.cell? ⟨gb122, 0, none⟩ = some (.slice none 0 0) := (blk_cell BK122.out 0).trans rfl
        have hcz88_1 : w26.cell? ⟨gb122, 1, none⟩ = some (.int .i64 0) := (blk_cell BK122.out 1).trans rfl
        have hfz88_0 := blk_frozen BK122.out 0
        have hfz88_1 := blk_frozen BK122.out 1
        go_wp2
        go_meet
        case rel => exact ⟨_, (true), (by first | rfl | (simp; done) | (simp [*]; done)), H', ⟨by first | omega | exact Nat.le_refl _⟩, ⟨by (with_reducible repeat (first | apply Kd.R_alloc | apply Kd.R_drewN | apply Kd.R_drew)); exact Kd.R_mono (Kd.R_far (p := ⟨gb123, 1, none⟩) (Kd.R_far (p := ⟨gb123, 0, none⟩) (Kd.R_far (p := ⟨gb122, 1, none⟩) (Kd.R_far (p := ⟨gb122, 0, none⟩) (Kd.R_types (Kd.R_types HO104.out BK122.out (by decide)) BK123.out (by decide)) (fun _ hk => hk.1.2) (.slice Ao27 t114.length co27)) (fun _ hk => hk.1.2) (.int .i64 t117)) (fun _ hk => hk.2) (.slice Ao32 t118.length co32)) (fun _ hk => hk.2) (.int .i64 t121)) (fun _ hk => ⟨hk.1.1.1.2, hk.1.1.2⟩)⟩, ⟨by (with_reducible repeat (first | apply Kd.R_alloc | apply Kd.R_drewN | apply Kd.R_drew)); exact Kd.R_mono (Kd.R_far (p := ⟨gb123, 1, none⟩) (Kd.R_far (p := ⟨gb123, 0, none⟩) (Kd.R_far (p := ⟨gb122, 1, none⟩) (Kd.R_far (p := ⟨gb122, 0, none⟩) (Kd.R_types (Kd.R_types HO116.out BK122.out (by decide)) BK123.out (by decide)) (fun _ hk => hk.1.2) (.slice Ao27 t114.length co27)) (fun _ hk => hk.1.2) (.int .i64 t117)) (fun _ hk => hk.2) (.slice Ao32 t118.length co32)) (fun _ hk => hk.2) (.int .i64 t121)) (fun _ hk => ⟨hk.1.1.1.1.2, hk.1.1.2⟩)⟩, ⟨by (with_reducible repeat (first | apply Kd.R_alloc | apply Kd.R_drewN | apply Kd.R_drew)); exact Kd.R_mono (Kd.R_far (p := ⟨gb123, 1, none⟩) (Kd.R_far (p := ⟨gb123, 0, none⟩) (Kd.R_far (p := ⟨gb122, 1, none⟩) (Kd.R_far (p := ⟨gb122, 0, none⟩) (Kd.R_types (Kd.R_types HO120.out BK122.out (by decide)) BK123.out (by decide)) (fun _ hk => hk.1.2) (.slice Ao27 t114.length co27)) (fun _ hk => hk.1.2) (.int .i64 t117)) (fun _ hk => hk.2) (.slice Ao32 t118.length co32)) (fun _ hk => hk.2) (.int .i64 t121)) (fun _ hk => ⟨hk.1.1.1.1.2, hk.1.1.2⟩)⟩, ⟨by (with_reducible repeat (first | refine blk_drewN ?_ _ | refine blk_drew ?_ | refine blk_alloc ?_ _)); refine blk_far ?_ NB106_123.out _; (with_reducible repeat (first | refine blk_drewN ?_ _ | refine blk_drew ?_ | refine blk_alloc ?_ _)); refine blk_far ?_ NB106_123.out _; (with_reducible repeat (first | refine blk_drewN ?_ _ | refine blk_drew ?_ | refine blk_alloc ?_ _)); refine blk_far ?_ NB106_122.out _; (with_reducible repeat (first | refine blk_drewN ?_ _ | refine blk_drew ?_ | refine blk_alloc ?_ _)); refine blk_far ?_ NB106_122.out _; (with_reducible repeat (first | refine blk_drewN ?_ _ | refine blk_drew ?_ | refine blk_alloc ?_ _)); exact BK106.out⟩, ⟨by (with_reducible repeat (first | refine blk_drewN ?_ _ | refine blk_drew ?_ | refine blk_alloc ?_ _)); refine blk_far ?_ NB110_123.out _; (with_reducible repeat (first | refine blk_drewN ?_ _ | refine blk_drew ?_ | refine blk_alloc ?_ _)); refine blk_far ?_ NB110_123.out _; (with_reducible repeat (first | refine blk_drewN ?_ _ | refine blk_drew ?_ | refine blk_alloc ?_ _)); refine blk_far ?_ NB110_122.out _; (with_reducible repeat (first | refine blk_drewN ?_ _ | refine blk_drew ?_ | refine blk_alloc ?_ _)); refine blk_far ?_ NB110_122.out _; (with_reducible repeat (first | refine blk_drewN ?_ _ | refine blk_drew ?_ | refine blk_alloc ?_ _)); exact BK110.out⟩, ⟨by (with_reducible repeat (first | refine blk_drewN ?_ _ | refine blk_drew ?_ | refine blk_alloc ?_ _)); refine blk_far ?_ NB122_123.out _; (with_reducible repeat (first | refine blk_drewN ?_ _ | refine blk_drew ?_ | refine blk_alloc ?_ _)); refine blk_far ?_ NB122_123.out _; (with_reducible repeat (first | refine blk_drewN ?_ _ | refine blk_drew ?_ | refine blk_alloc ?_ _)); refine blk_put (cs := #[.slice Ao27 t114.length co27, .int .i64 0]) ?_ 1 _ rfl; (with_reducible repeat (first | refine blk_drewN ?_ _ | refine blk_drew ?_ | refine blk_alloc ?_ _)); refine blk_put (cs := #[.slice none 0 0, .int .i64 0]) ?_ 0 _ rfl; (with_reducible repeat (first | refine blk_drewN ?_ _ | refine blk_drew ?_ | refine blk_alloc ?_ _)); exact BK122.out⟩, ⟨by (with_reducible repeat (first | refine blk_drewN ?_ _ | refine blk_drew ?_ | refine blk_alloc ?_ _)); refine blk_put (cs := #[.slice Ao32 t118.length co32, .int .i64 0]) ?_ 1 _ rfl; (with_reducible repeat (first | refine blk_drewN ?_ _ | refine blk_drew ?_ | refine blk_alloc ?_ _)); refine blk_put (cs := #[.slice none 0 0, .int .i64 0]) ?_ 0 _ rfl; (with_reducible repeat (first | refine blk_drewN ?_ _ | refine blk_drew ?_ | refine blk_alloc ?_ _)); refine blk_far ?_ NB123_122.out _; (with_reducible repeat (first | refine blk_drewN ?_ _ | refine blk_drew ?_ | refine blk_alloc ?_ _)); refine blk_far ?_ NB123_122.out _; (with_reducible repeat (first | refine blk_drewN ?_ _ | refine blk_drew ?_ | refine blk_alloc ?_ _)); exact BK123.out⟩, ⟨by repeat (first | (with_reducible first | exact HB.out | apply below_alloc | apply pw_below_drewN | apply below_drew1 | refine below_set ?_ GE106.out | refine below_set ?_ GE110.out | refine below_set ?_ GE122.out | refine below_set ?_ GE123.out) | exact HB.out)⟩⟩
       ·rw [if_neg c79] at H
        have c79b0 : ((t117 == 2) != ((Int.tmod a2 2) == 0)) = false := by simpa using c79
        (try (have c79b1 : decide ((t117 == 2) = ((Int.tmod a2 2) == 0)) = true := by simpa using c79))
        (try (have c79b2 : ((t117 == 2) == ((Int.tmod a2 2) == 0)) = true := by simpa using c79))
        clear c79
        have H' := Aside0.mk H
        clear H
        have hnb89 := NB106_110.out
        have hnc89 := NB110_106.out
        have hnb90 := NB106_122.out
        have hnc90 := NB122_106.out
        have hnb91 := NB106_123.out
        have hnc91 := NB123_106.out
        have hcz92_0 : w26.cell? ⟨gb106, 0, none⟩ = some (.slice Ao14 t102.length co14) := (blk_cell BK106.out 0).trans rfl
        have hcz92_1 : w26.cell? ⟨gb106, 1, none⟩ = some (.int .i64 t105) := (blk_cell BK106.out 1).trans rfl
        have hfz92_0 := blk_frozen BK106.out 0
        have hfz92_1 := blk_frozen BK106.out 1
        have hnb93 := NB110_122.out
        have hnc93 := NB122_110.out
        have hnb94 := NB110_123.out
        have hnc94 := NB123_110.out
        have hcz95_0 : w26.cell? ⟨gb110, 0, none⟩ = some (.int .i64 t107) := (blk_cell BK110.out 0).trans rfl
        have hcz95_1 : w26.cell? ⟨gb110, 1, none⟩ = some (.int .i64 t108) := (blk_cell BK110.out 1).trans rfl
        have hcz95_2 : w26.cell? ⟨gb110, 2, none⟩ = some (.int .i64 t109) := (blk_cell BK110.out 2).trans rfl
        have hfz95_0 := blk_frozen BK110.out 0
        have hfz95_1 := blk_frozen BK110.out 1
        have hfz95_2 := blk_frozen BK110.out 2
        have hnb96 := NB122_123.out
        have hnc96 := NB123_122.out
        have hcz97_0 : w26.cell? ⟨gb122, 0, none⟩ = some (.slice none 0 0) := (blk_cell BK122.out 0).trans rfl
        have hcz97_1 : w26.cell? ⟨gb122, 1, none⟩ = some (.int .i64 0) := (blk_cell BK122.out 1).trans rfl
        have hfz97_0 := blk_frozen BK122.out 0
        have hfz97_1 := blk_frozen BK122.out 1
        have hcz98_0 : w26.cell? ⟨gb123, 0, none⟩ = some (.slice none 0 0) := (blk_cell BK123.out 0).trans rfl
        have hcz98_1 : w26.cell? ⟨gb123, 1, none⟩ = some (.int .i64 0) := (blk_cell BK123.out 1).trans rfl
        have hfz98_0 := blk_frozen BK123.out 0
        have hfz98_1 := blk_frozen BK123.out 1
        go_wp2
        go_meet
        case rel => exact ⟨_, ((t121 != 2)), (by first | rfl | (simp; done) | (simp [*]; done)), H', ⟨by first | omega | exact Nat.le_refl _⟩, ⟨by (with_reducible repeat (first | apply Kd.R_alloc | apply Kd.R_drewN | apply Kd.R_drew)); exact Kd.R_mono (Kd.R_far (p := ⟨gb123, 1, none⟩) (Kd.R_far (p := ⟨gb123, 0, none⟩) (Kd.R_far (p := ⟨gb122, 1, none⟩) (Kd.R_far (p := ⟨gb122, 0, none⟩) (Kd.R_types (Kd.R_types HO104.out BK122.out (by decide)) BK123.out (by decide)) (fun _ hk => hk.1.2) (.slice Ao27 t114.length co27)) (fun _ hk => hk.1.2) (.int .i64 t117)) (fun _ hk => hk.2) (.slice Ao32 t118.length co32)) (fun _ hk => hk.2) (.int .i64 t121)) (fun _ hk => ⟨hk.1.1.1.2, hk.1.1.2⟩)⟩, ⟨by (with_reducible repeat (first | apply Kd.R_alloc | apply Kd.R_drewN | apply Kd.R_drew)); exact Kd.R_mono (Kd.R_far (p := ⟨gb123, 1, none⟩) (Kd.R_far (p := ⟨gb123, 0, none⟩) (Kd.R_far (p := ⟨gb122, 1, none⟩) (Kd.R_far (p := ⟨gb122, 0, none⟩) (Kd.R_types (Kd.R_types HO116.out BK122.out (by decide)) BK123.out (by decide)) (fun _ hk => hk.1.2) (.slice Ao27 t114.length co27)) (fun _ hk => hk.1.2) (.int .i64 t117)) (fun _ hk => hk.2) (.slice Ao32 t118.length co32)) (fun _ hk => hk.2) (.int .i64 t121)) (fun _ hk => ⟨hk.1.1.1.1.2, hk.1.1.2⟩)⟩, ⟨by (with_reducible repeat (first | apply Kd.R_alloc | apply Kd.R_drewN | apply Kd.R_drew)); exact Kd.R_mono (Kd.R_far (p := ⟨gb123, 1, none⟩) (Kd.R_far (p := ⟨gb123, 0, none⟩) (Kd.R_far (p := ⟨gb122, 1, none⟩) (Kd.R_far (p := ⟨gb122, 0, none⟩) (Kd.R_types (Kd.R_types HO120.out BK122.out (by decide)) BK123.out (by decide)) (fun _ hk => hk.1.2) (.slice Ao27 t114.length co27)) (fun _ hk => hk.1.2) (.int .i64 t117)) (fun _ hk => hk.2) (.slice Ao32 t118.length co32)) (fun _ hk => hk.2) (.int .i64 t121)) (fun _ hk => ⟨hk.1.1.1.1.2, hk.1.1.2⟩)⟩, ⟨by (with_reducible repeat (first | refine blk_drewN ?_ _ | refine blk_drew ?_ | refine blk_alloc ?_ _)); refine blk_far ?_ NB106_123.out _; (with_reducible repeat (first | refine blk_drewN ?_ _ | refine blk_drew ?_ | refine blk_alloc ?_ _)); refine blk_far ?_ NB106_123.out _; (with_reducible repeat (first | refine blk_drewN ?_ _ | refine blk_drew ?_ | refine blk_alloc ?_ _)); refine blk_far ?_ NB106_122.out _; (with_reducible repeat (first | refine blk_drewN ?_ _ | refine blk_drew ?_ | refine blk_alloc ?_ _)); refine blk_far ?_ NB106_122.out _; (with_reducible repeat (first | refine blk_drewN ?_ _ | refine blk_drew ?_ | refine blk_alloc ?_ _)); exact BK106.out⟩, ⟨by (with_reducible repeat (first | refine blk_drewN ?_ _ | refine blk_drew ?_ | refine blk_alloc ?_ _)); refine blk_far ?_ NB110_123.out _; (with_reducible repeat (first | refine blk_drewN ?_ _ | refine blk_drew ?_ | refine blk_alloc ?_ _)); refine blk_far ?_ NB110_123.out _; (with_reducible repeat (first | refine blk_drewN ?_ _ | refine blk_drew ?_ | refine blk_alloc ?_ _)); refine blk_far ?_ NB110_122.out _; (with_reducible repeat (first | refine blk_drewN ?_ _ | refine blk_drew ?_ | refine blk_alloc ?_ _)); refine blk_far ?_ NB110_122.out _; (with_reducible repeat (first | refine blk_drewN ?_ _ | refine blk_drew ?_ | refine blk_alloc ?_ _)); exact BK110.out⟩, ⟨by (with_reducible repeat (first | refine blk_drewN ?_ _ | refine blk_drew ?_ | refine blk_alloc ?_ _)); refine blk_far ?_ NB122_123.out _; (with_reducible repeat (first | refine blk_drewN ?_ _ | refine blk_drew ?_ | refine blk_alloc ?_ _)); refine blk_far ?_ NB122_123.out _; (with_reducible repeat (first | refine blk_drewN ?_ _ | refine blk_drew ?_ | refine blk_alloc ?_ _)); refine blk_put (cs := #[.slice Ao27 t114.length co27, .int .i64 0]) ?_ 1 _ rfl; (with_reducible repeat (first | refine blk_drewN ?_ _ | refine blk_drew ?_ | refine blk_alloc ?_ _)); refine blk_put (cs := #[.slice none 0 0, .int .i64 0]) ?_ 0 _ rfl; (with_reducible repeat (first | refine blk_drewN ?_ _ | refine blk_drew ?_ | refine blk_alloc ?_ _)); exact BK122.out⟩, ⟨by (with_reducible repeat (first | refine blk_drewN ?_ _ | refine blk_drew ?_ | refine blk_alloc ?_ _)); refine blk_put (cs := #[.slice Ao32 t118.length co32, .int .i64 0]) ?_ 1 _ rfl; (with_reducible repeat (first | refine blk_drewN ?_ _ | refine blk_drew ?_ | refine blk_alloc ?_ _)); refine blk_put (cs := #[.slice none 0 0, .int .i64 0]) ?_ 0 _ rfl; (with_reducible repeat (first | refine blk_drewN ?_ _ | refine blk_drew ?_ | refine blk_alloc ?_ _)); refine blk_far ?_ NB123_122.out _; (with_reducible repeat (first | refine blk_drewN ?_ _ | refine blk_drew ?_ | refine blk_alloc ?_ _)); refine blk_far ?_ NB123_122.out _; (with_reducible repeat (first | refine blk_drewN ?_ _ | refine blk_drew ?_ | refine blk_alloc ?_ _)); exact BK123.out⟩, ⟨by repeat (first | (with_reducible first | exact HB.out | apply below_alloc | apply pw_below_drewN | apply below_drew1 | refine below_set ?_ GE106.out | refine below_set ?_ GE110.out | refine below_set ?_ GE122.out | refine below_set ?_ GE123.out) | exact HB.out)⟩⟩
   ·rw [if_neg c36] at H
    have c36b0 : decide (a0 < 1) = false := decide_eq_false c36
    clear c36
    (first | rw [c36b0] | (simp only [i64_w, i32_w]; rw [c36b0]) | skip)
    by_cases c99 : ((t105 == 1) != (decide (a0 > 14))) = true
    ·rw [if_pos c99] at H
     have c99b0 : ((t105 == 1) != (decide (a0 > 14))) = true := c99
     (try (have c99b1 : decide ((t105 == 1) = (decide (a0 > 14))) = false := by simpa using c99))
     (try (have c99b2 : ((t105 == 1) == (decide (a0 > 14))) = false := by simpa using c99))
     (try (have c99b3 : ¬ ((t105 == 1) = (decide (a0 > 14))) := by simpa using c99))
     clear c99
     have H' := Aside0.mk H
     clear H
     have hnb100 := NB106_110.out
     have hnc100 := NB110_106.out
     have hnb101 := NB106_122.out
     have hnc101 := NB122_106.out
     have hnb102 := NB106_123.out
     have hnc102 := NB123_106.out
     have hcz103_0 : w26.cell? ⟨gb106, 0, none⟩ = some (.slice Ao14 t102.length co14) := (blk_cell BK106.out 0).trans rfl
     have hcz103_1 : w26.cell? ⟨gb106, 1, none⟩ = some (.int .i64 t105) := (blk_cell BK106.out 1).trans rfl
     have hfz103_0 := blk_frozen BK106.out 0
     have hfz103_1 := blk_frozen BK106.out 1
     go_wp2
     go_meet
     case rel => exact ⟨_, (true), (by first | rfl | (simp; done) | (simp [*]; done)), H', ⟨by first | omega | exact Nat.le_refl _⟩, ⟨by (with_reducible repeat (first | apply Kd.R_alloc | apply Kd.R_drewN | apply Kd.R_drew)); exact Kd.R_mono (Kd.R_far (p := ⟨gb123, 1, none⟩) (Kd.R_far (p := ⟨gb123, 0, none⟩) (Kd.R_far (p := ⟨gb122, 1, none⟩) (Kd.R_far (p := ⟨gb122, 0, none⟩) (Kd.R_types (Kd.R_types HO104.out BK122.out (by decide)) BK123.out (by decide)) (fun _ hk => hk.1.2) (.slice Ao27 t114.length co27)) (fun _ hk => hk.1.2) (.int .i64 t117)) (fun _ hk => hk.2) (.slice Ao32 t118.length co32)) (fun _ hk => hk.2) (.int .i64 t121)) (fun _ hk => ⟨hk.1.1.1.2, hk.1.1.2⟩)⟩, ⟨by (with_reducible repeat (first | apply Kd.R_alloc | apply Kd.R_drewN | apply Kd.R_drew)); exact Kd.R_mono (Kd.R_far (p := ⟨gb123, 1, none⟩) (Kd.R_far (p := ⟨gb123, 0, none⟩) (Kd.R_far (p := ⟨gb122, 1, none⟩) (Kd.R_far (p := ⟨gb122, 0, none⟩) (Kd.R_types (Kd.R_types HO116.out BK122.out (by decide)) BK123.out (by decide)) (fun _ hk => hk.1.2) (.slice Ao27 t114.length co27)) (fun _ hk => hk.1.2) (.int .i64 t117)) (fun _ hk => hk.2) (.slice Ao32 t118.length co32)) (fun _ hk => hk.2) (.int .i64 t121)) (fun _ hk => ⟨hk.1.1.1.1.2, hk.1.1.2⟩)⟩, ⟨by (with_reducible repeat (first | apply Kd.R_alloc | apply Kd.R_drewN | apply Kd.R_drew)); exact Kd.R_mono (Kd.R_far (p := ⟨gb123, 1, none⟩) (Kd.R_far (p := ⟨gb123, 0, none⟩) (Kd.R_far (p := ⟨gb122, 1, none⟩) (Kd.R_far (p := ⟨gb122, 0, none⟩) (Kd.R_types (Kd.R_types HO120.out BK122.out (by decide)) BK123.out (by decide)) (fun _ hk => hk.1.2) (.slice Ao27 t114.length co27)) (fun _ hk => hk.1.2) (.int .i64 t117)) (fun _ hk => hk.2) (.slice Ao32 t118.length co32)) (fun _ hk => hk.2) (.int .i64 t121)) (fun _ hk => ⟨hk.1.1.1.1.2, hk.1.1.2⟩)⟩, ⟨by (with_reducible repeat (first | refine blk_drewN ?_ _ | refine blk_drew ?_ | refine blk_alloc ?_ _)); refine blk_far ?_ NB106_123.out _; (with_reducible repeat (first | refine blk_drewN ?_ _ | refine blk_drew ?_ | refine blk_alloc ?_ _)); refine blk_far ?_ NB106_123.out _; (with_reducible repeat (first | refine blk_drewN ?_ _ | refine blk_drew ?_ | refine blk_alloc ?_ _)); refine blk_far ?_ NB106_122.out _; (with_reducible repeat (first | refine blk_drewN ?_ _ | refine blk_drew ?_ | refine blk_alloc ?_ _)); refine blk_far ?_ NB106_122.out _; (with_reducible repeat (first | refine blk_drewN ?_ _ | refine blk_drew ?_ | refine blk_alloc ?_ _)); exact BK106.out⟩, ⟨by (with_reducible repeat (first | refine blk_drewN ?_ _ | refine blk_drew ?_ | refine blk_alloc ?_ _)); refine blk_far ?_ NB110_123.out _; (with_reducible repeat (first | refine blk_drewN ?_ _ | refine blk_drew ?_ | refine blk_alloc ?_ _)); refine blk_far ?_ NB110_123.out _; (with_reducible repeat (first | refine blk_drewN ?_ _ | refine blk_drew ?_ | refine blk_alloc ?_ _)); refine blk_far ?_ NB110_122.out _; (with_reducible repeat (first | refine blk_drewN ?_ _ | refine blk_drew ?_ | refine blk_alloc ?_ _)); refine blk_far ?_ NB110_122.out _; (with_reducible repeat (first | refine blk_drewN ?_ _ | refine blk_drew ?_ | refine blk_alloc ?_ _)); exact BK110.out⟩, ⟨by (with_reducible repeat (first | refine blk_drewN ?_ _ | refine blk_drew ?_ | refine blk_alloc ?_ _)); refine blk_far ?_ NB122_123.out _; (with_reducible repeat (first | refine blk_drewN ?_ _ | refine blk_drew ?_ | refine blk_alloc ?_ _)); refine blk_far ?_ NB122_123.out _; (with_reducible repeat (first | refine blk_drewN ?_ _ | refine blk_drew ?_ | refine blk_alloc ?_ _)); refine blk_put (cs := #[.slice Ao27 t114.length co27, .int .i64 0]) ?_ 1 _ rfl; (with_reducible repeat (first | refine blk_drewN ?_ _ | refine blk_drew ?_ | refine blk_alloc ?_ _)); refine blk_put (cs := #[.slice none 0 0, .int .i64 0]) ?_ 0 _ rfl; (with_reducible repeat (first | refine blk_drewN ?_ _ | refine blk_drew ?_ | refine blk_alloc ?_ _)); exact BK122.out⟩, ⟨by (with_reducible repeat (first | refine blk_drewN ?_ _ | refine blk_drew ?_ | refine blk_alloc ?_ _)); refine blk_put (cs := #[.slice Ao32 t118.length co32, .int .i64 0]) ?_ 1 _ rfl; (with_reducible repeat (first | refine blk_drewN ?_ _ | refine blk_drew ?_ | refine blk_alloc ?_ _)); refine blk_put (cs := #[.slice none 0 0, .int .i64 0]) ?_ 0 _ rfl; (with_reducible repeat (first | refine blk_drewN ?_ _ | refine blk_drew ?_ | refine blk_alloc ?_ _)); refine blk_far ?_ NB123_122.out _; (with_reducible repeat (first | refine blk_drewN ?_ _ | refine blk_drew ?_ | refine blk_alloc ?_ _)); refine blk_far ?_ NB123_122.out _; (with_reducible repeat (first | refine blk_drewN ?_ _ | refine blk_drew ?_ | refine blk_alloc ?_ _)); exact BK123.out⟩, ⟨by repeat (first | (with_reducible first | exact HB.out | apply below_alloc | apply pw_below_drewN | apply below_drew1 | refine below_set ?_ GE106.out | refine below_set ?_ GE110.out | refine below_set ?_ GE122.out | refine below_set ?_ GE123.out) | exact HB.out)⟩⟩
    ·rw [if_neg c99] at H
     have c99b0 : ((t105 == 1) != (decide (a0 > 14))) = false := by simpa using c99
     (try (have c99b1 : decide ((t105 == 1) = (decide (a0 > 14))) = true := by simpa using c99))
     (try (have c99b2 : ((t105 == 1) == (decide (a0 > 14))) = true := by simpa using c99))
     clear c99
     by_cases c104 : a1 < 0
     ·rw [if_pos c104] at H
      have c104b0 : decide (a1 < 0) = true := decide_eq_true c104
      clear c104
      by_cases c105 : ((t109 == 1) != true) = true
      ·rw [if_pos c105] at H
       have c105b0 : ((t109 == 1) != true) = true := c105
       (try (have c105b1 : decide ((t109 == 1) = true) = false := by simpa using c105))
       (try (have c105b2 : ((t109 == 1) == true) = false := by simpa using c105))
       (try (have c105b3 : ¬ ((t109 == 1) = true) := by simpa using c105))
       clear c105
       have H' := Aside0.mk H
       clear H
       have hnb106 := NB106_110.out
       have hnc106 := NB110_106.out
       have hnb107 := NB106_122.out
       have hnc107 := NB122_106.out
       have hnb108 := NB106_123.out
       have hnc108 := NB123_106.out
       have hcz109_0 : w26.cell? ⟨gb106, 0, none⟩ = some (.slice Ao14 t102.length co14) := (blk_cell BK106.out 0).trans rfl
       have hcz109_1 : w26.cell? ⟨gb106, 1, none⟩ = some (.int .i64 t105) := (blk_cell BK106.out 1).trans rfl
       have hfz109_0 := blk_frozen BK106.out 0
       have hfz109_1 := blk_frozen BK106.out 1
       have hnb110 := NB110_122.out
       have hnc110 := NB122_110.out
       have hnb111 := NB110_123.out
       have hnc111 := NB123_110.out
       have hcz112_0 : w26.cell? ⟨gb110, 0, none⟩ = some (.int .i64 t107) := (blk_cell BK110.out 0).trans rfl
       have hcz112_1 : w26.cell? ⟨gb110, 1, none⟩ = some (.int .i64 t108) := (blk_cell BK110.out 1).trans rfl
       have hcz112_2 : w26.cell? ⟨gb110, 2, none⟩ = some (.int .i64 t109) := (blk_cell BK110.out 2).trans rfl
       have hfz112_0 := blk_frozen BK110.out 0
       have hfz112_1 := blk_frozen BK110.out 1
       have hfz112_2 := blk_frozen BK110.out 2
       go_wp2
       go_meet
       case rel => exact ⟨_, (true), (by first | rfl | (simp; done) | (simp [*]; done)), H', ⟨by first | omega | exact Nat.le_refl _⟩, ⟨by (with_reducible repeat (first | apply Kd.R_alloc | apply Kd.R_drewN | apply Kd.R_drew)); exact Kd.R_mono (Kd.R_far (p := ⟨gb123, 1, none⟩) (Kd.R_far (p := ⟨gb123, 0, none⟩) (Kd.R_far (p := ⟨gb122, 1, none⟩) (Kd.R_far (p := ⟨gb122, 0, none⟩) (Kd.R_types (Kd.R_types HO104.out BK122.out (by decide)) BK123.out (by decide)) (fun _ hk => hk.1.2) (.slice Ao27 t114.length co27)) (fun _ hk => hk.1.2) (.int .i64 t117)) (fun _ hk => hk.2) (.slice Ao32 t118.length co32)) (fun _ hk => hk.2) (.int .i64 t121)) (fun _ hk => ⟨hk.1.1.1.2, hk.1.1.2⟩)⟩, ⟨by (with_reducible repeat (first | apply Kd.R_alloc | apply Kd.R_drewN | apply Kd.R_drew)); exact Kd.R_mono (Kd.R_far (p := ⟨gb123, 1, none⟩) (Kd.R_far (p := ⟨gb123, 0, none⟩) (Kd.R_far (p := ⟨gb122, 1, none⟩) (Kd.R_far (p := ⟨gb122, 0, none⟩) (Kd.R_types (Kd.R_types HO116.out BK122.out (by decide)) BK123.out (by decide)) (fun _ hk => hk.1.2) (.slice Ao27 t114.length co27)) (fun _ hk => hk.1.2) (.int .i64 t117)) (fun _ hk => hk.2) (.slice Ao32 t118.length co32)) (fun _ hk => hk.2) (.int .i64 t121)) (fun _ hk => ⟨hk.1.1.1.1.2, hk.1.1.2⟩)⟩, ⟨by (with_reducible repeat (first | apply Kd.R_alloc | apply Kd.R_drewN | apply Kd.R_drew)); exact Kd.R_mono (Kd.R_far (p := ⟨gb123, 1, none⟩) (Kd.R_far (p := ⟨gb123, 0, none⟩) (Kd.R_far (p := ⟨gb122, 1, none⟩) (Kd.R_far (p := ⟨gb122, 0, none⟩) (Kd.R_types (Kd.R_types HO120.out BK122.out (by decide)) BK123.out (by decide)) (fun _ hk => hk.1.2) (.slice Ao27 t114.length co27)) (fun _ hk => hk.1.2) (.int .i64 t117)) (fun _ hk => hk.2) (.slice Ao32 t118.length co32)) (fun _ hk => hk.2) (.int .i64 t121)) (fun _ hk => ⟨hk.1.1.1.1.2, hk.1.1.2⟩)⟩, ⟨by (with_reducible repeat (first | refine blk_drewN ?_ _ | refine blk_drew ?_ | refine blk_alloc ?_ _)); refine blk_far ?_ NB106_123.out _; (with_reducible repeat (first | refine blk_drewN ?_ _ | refine blk_drew ?_ | refine blk_alloc ?_ _)); refine blk_far ?_ NB106_123.out _; (with_reducible repeat (first | refine blk_drewN ?_ _ | refine blk_drew ?_ | refine blk_alloc ?_ _)); refine blk_far ?_ NB106_122.out _; (with_reducible repeat (first | refine blk_drewN ?_ _ | refine blk_drew ?_ | refine blk_alloc ?_ _)); refine blk_far ?_ NB106_122.out _; (with_reducible repeat (first | refine blk_drewN ?_ _ | refine blk_drew ?_ | refine blk_alloc ?_ _)); exact BK106.out⟩, ⟨by (with_reducible repeat (first | refine blk_drewN ?_ _ | refine blk_drew ?_ | refine blk_alloc ?_ _)); refine blk_far ?_ NB110_123.out _; (with_reducible repeat (first | refine blk_drewN ?_ _ | refine blk_drew ?_ | refine blk_alloc ?_ _)); refine blk_far ?_ NB110_123.out _; (with_reducible repeat (first | refine blk_drewN ?_ _ | refine blk_drew ?_ | refine blk_alloc ?_ _)); refine blk_far ?_ NB110_122.out _; (with_reducible repeat (first | refine blk_drewN ?_ _ | refine blk_drew ?_ | refine blk_alloc ?_ _)); refine blk_far ?_ NB110_122.out _; (with_reducible repeat (first | refine blk_drewN ?_ _ | refine blk_drew ?_ | refine blk_alloc ?_ _)); exact BK110.out⟩, ⟨by (with_reducible repeat (first | refine blk_drewN ?_ _ | refine blk_drew ?_ | refine blk_alloc ?_ _)); refine blk_far ?_ NB122_123.out _; (with_reducible repeat (first | refine blk_drewN ?_ _ | refine blk_drew ?_ | refine blk_alloc ?_ _)); refine blk_far ?_ NB122_123.out _; (with_reducible repeat (first | refine blk_drewN ?_ _ | refine blk_drew ?_ | refine blk_alloc ?_ _)); refine blk_put (cs := #[.slice Ao27 t114.length co27, .int .i64 0]) ?_ 1 _ rfl; (with_reducible repeat (first | refine blk_drewN ?_ _ | refine blk_drew ?_ | refine blk_alloc ?_ _)); refine blk_put (cs := #[.slice none 0 0, .int .i64 0]) ?_ 0 _ rfl; (with_reducible repeat (first | refine blk_drewN ?_ _ | refine blk_drew ?_ | refine blk_alloc ?_ _)); exact BK122.out⟩, ⟨by (with_reducible repeat (first | refine blk_drewN ?_ _ | refine blk_drew ?_ | refine blk_alloc ?_ _)); refine blk_put (cs := #[.slice Ao32 t118.length co32, .int .i64 0]) ?_ 1 _ rfl; (with_reducible repeat (first | refine blk_drewN ?_ _ | refine blk_drew ?_ | refine blk_alloc ?_ _)); refine blk_put (cs := #[.slice none 0 0, .int .i64 0]) ?_ 0 _ rfl; (with_reducible repeat (first | refine blk_drewN ?_ _ | refine blk_drew ?_ | refine blk_alloc ?_ _)); refine blk_far ?_ NB123_122.out _; (with_reducible repeat (first | refine blk_drewN ?_ _ | refine blk_drew ?_ | refine blk_alloc ?_ _)); refine blk_far ?_ NB123_122.out _; (with_reducible repeat (first | refine blk_drewN ?_ _ | refine blk_drew ?_ | refine blk_alloc ?_ _)); exact BK123.out⟩, ⟨by repeat (first | (with_reducible first | exact HB.out | apply below_alloc | apply pw_below_drewN | apply below_drew1 | refine below_set ?_ GE106.out | refine below_set ?_ GE110.out | refine below_set ?_ GE122.out | refine below_set ?_ GE123.out) | exact HB.out)⟩⟩
      ·rw [if_neg c105] at H
       have c105b0 : ((t109 == 1) != true) = false := by simpa using c105
       (try (have c105b1 : decide ((t109 == 1) = true) = true := by simpa using c105))
       (try (have c105b2 : ((t109 == 1) == true) = true := by simpa using c105))
       clear c105
       by_cases c113 : ((t117 == 2) != ((Int.tmod a2 2) == 0)) = true
       ·rw [if_pos c113] at H
        have c113b0 : ((t117 == 2) != ((Int.tmod a2 2) == 0)) = true := c113
        (try (have c113b1 : decide ((t117 == 2) = ((Int.tmod a2 2) == 0)) = false := by simpa using c113))
        (try (have c113b2 : ((t117 == 2) == ((Int.tmod a2 2) == 0)) = false := by simpa using c113))
        (try (have c113b3 : ¬ ((t117 == 2) = ((Int.tmod a2 2) == 0)) := by simpa using c113))
        clear c113
        have H' := Aside0.mk H
        clear H
        have hnb114 := NB106_110.out
        have hnc114 := NB110_106.out
        have hnb115 := NB106_122.out
        have hnc115 := NB122_106.out
        have hnb116 := NB106_123.out
        have hnc116 := NB123_106.out
        have hcz117_0 : w26.cell? ⟨gb106, 0, none⟩ = some (.slice Ao14 t102.length co14) := (blk_cell BK106.out 0).trans rfl
        have hcz117_1 : w26.cell? ⟨gb106, 1, none⟩ = some (.int .i64 t105) := (blk_cell BK106.out 1).trans rfl
        have hfz117_0 := blk_frozen BK106.out 0
        have hfz117_1 := blk_frozen BK106.out 1
        have hnb118 := NB110_122.out
        have hnc118 := NB122_110.out
        have hnb119 := NB110_123.out
        have hnc119 := NB123_110.out
        have hcz120_0 : w26.cell? ⟨gb110, 0, none⟩ = some (.int .i64 t107) := (blk_cell BK110.out 0).trans rfl
        have hcz120_1 : w26.cell? ⟨gb110, 1, none⟩ = some (.int .i64 t108) := (blk_cell BK110.out 1).trans rfl
        have hcz120_2 : w26.cell? ⟨gb110, 2, none⟩ = some (.int .i64 t109) := (blk_cell BK110.out 2).trans rfl
        have hfz120_0 := blk_frozen BK110.out 0
        have hfz120_1 := blk_frozen BK110.out 1
        have hfz120_2 := blk_frozen BK110.out 2
        have hnb121 := NB122_123.out
        have hnc121 := NB123_122.out
        have hcz122_0 : w26.cell? ⟨gb122, 0, none⟩ = some (.slice none 0 0) := (blk_cell BK122.out 0).trans rfl
        have hcz122_1 : w26.cell? ⟨gb122, 1, none⟩ = some (.int .i64 0) := (blk_cell BK122.out 1).trans rfl
        have hfz122_0 := blk_frozen BK122.out 0
        have hfz122_1 := blk_frozen BK122.out 1
        go_wp2
        go_meet
        case rel => exact ⟨_, (true), (by first | rfl | (simp; done) | (simp [*]; done)), H', ⟨by first | omega | exact Nat.le_refl _⟩, ⟨by (with_reducible repeat (first | apply Kd.R_alloc | apply Kd.R_drewN | apply Kd.R_drew)); exact Kd.R_mono (Kd.R_far (p := ⟨gb123, 1, none⟩) (Kd.R_far (p := ⟨gb123, 0, none⟩) (Kd.R_far (p := ⟨gb122, 1, none⟩) (Kd.R_far (p := ⟨gb122, 0, none⟩) (Kd.R_types (Kd.R_types HO104.out BK122.out (by decide)) BK123.out (by decide)) (fun _ hk => hk.1.2) (.slice Ao27 t114.length co27)) (fun _ hk => hk.1.2) (.int .i64 t117)) (fun _ hk => hk.2) (.slice Ao32 t118.length co32)) (fun _ hk => hk.2) (.int .i64 t121)) (fun _ hk => ⟨hk.1.1.1.2, hk.1.1.2⟩)⟩, ⟨by (with_reducible repeat (first | apply Kd.R_alloc | apply Kd.R_drewN | apply Kd.R_drew)); exact Kd.R_mono (Kd.R_far (p := ⟨gb123, 1, none⟩) (Kd.R_far (p := ⟨gb123, 0, none⟩) (Kd.R_far (p := ⟨gb122, 1, none⟩) (Kd.R_far (p := ⟨gb122, 0, none⟩) (Kd.R_types (Kd.R_types HO116.out BK122.out (by decide)) BK123.out (by decide)) (fun _ hk => hk.1.2) (.slice Ao27 t114.length co27)) (fun _ hk => hk.1.2) (.int .i64 t117)) (fun _ hk => hk.2) (.slice Ao32 t118.length co32)) (fun _ hk => hk.2) (.int .i64 t121)) (fun _ hk => ⟨hk.1.1.1.1.2, hk.1.1.2⟩)⟩, ⟨by (with_reducible repeat (first | apply Kd.R_alloc | apply Kd.R_drewN | apply Kd.R_drew)); exact Kd.R_mono (Kd.R_far (p := ⟨gb123, 1, none⟩) (Kd.R_far (p := ⟨gb123, 0, none⟩) (Kd.R_far (p := ⟨gb122, 1, none⟩) (Kd.R_far (p := ⟨gb122, 0, none⟩) (Kd.R_types (Kd.R_types HO120.out BK122.out (by decide)) BK123.out (by decide)) (fun _ hk => hk.1.2) (.slice Ao27 t114.length co27)) (fun _ hk => hk.1.2) (.int .i64 t117)) (fun _ hk => hk.2) (.slice Ao32 t118.length co32)) (fun _ hk => hk.2) (.int .i64 t121)) (fun _ hk => ⟨hk.1.1.1.1.2, hk.1.1.2⟩)⟩, ⟨by (with_reducible repeat (first | refine blk_drewN ?_ _ | refine blk_drew ?_ | refine blk_alloc ?_ _)); refine blk_far ?_ NB106_123.out _; (with_reducible repeat (first | refine blk_drewN ?_ _ | refine blk_drew ?_ | refine blk_alloc ?_ _)); refine blk_far ?_ NB106_123.out _; (with_reducible repeat (first | refine blk_drewN ?_ _ | refine blk_drew ?_ | refine blk_alloc ?_ _)); refine blk_far ?_ NB106_122.out _; (with_reducible repeat (first | refine blk_drewN ?_ _ | refine blk_drew ?_ | refine blk_alloc ?_ _)); refine blk_far ?_ NB106_122.out _; (with_reducible repeat (first | refine blk_drewN ?_ _ | refine blk_drew ?_ | refine blk_alloc ?_ _)); exact BK106.out⟩, ⟨by (with_reducible repeat (first | refine blk_drewN ?_ _ | refine blk_drew ?_ | refine blk_alloc ?_ _)); refine blk_far ?_ NB110_123.out _; (with_reducible repeat (first | refine blk_drewN ?_ _ | refine blk_drew ?_ | refine blk_alloc ?_ _)); refine blk_far ?_ NB110_123.out _; (with_reducible repeat (first | refine blk_drewN ?_ _ | refine blk_drew ?_ | refine blk_alloc ?_ _)); refine blk_far ?_ NB110_122.out _; (with_reducible repeat (first | refine blk_drewN ?_ _ | refine blk_drew ?_ | refine blk_alloc ?_ _)); refine blk_far ?_ NB110_122.out _; (with_reducible repeat (first | refine blk_drewN ?_ _ | refine blk_drew ?_ | refine blk_alloc ?_ _)); exact BK110.out⟩, ⟨by (with_reducible repeat (first | refine blk_drewN ?_ _ | refine blk_drew ?_ | refine blk_alloc ?_ _)); refine blk_far ?_ NB122_123.out _; (with_reducible repeat (first | refine blk_drewN ?_ _ | refine blk_drew ?_ | refine blk_alloc ?_ _)); refine blk_far ?_ NB122_123.out _; (with_reducible repeat (first | refine blk_drewN ?_ _ | refine blk_drew ?_ | refine blk_alloc ?_ _)); refine blk_put (cs := #[.slice Ao27 t114.length co27, .int .i64 0]) ?_ 1 _ rfl; (with_reducible repeat (first | refine blk_drewN ?_ _ | refine blk_drew ?_ | refine blk_alloc ?_ _)); refine blk_put (cs := #[.slice none 0 0, .int .i64 0]) ?_ 0 _ rfl; (with_reducible repeat (first | refine blk_drewN ?_ _ | refine blk_drew ?_ | refine blk_alloc ?_ _)); exact BK122.out⟩, ⟨by (with_reducible repeat (first | refine blk_drewN ?_ _ | refine blk_drew ?_ | refine blk_alloc ?_ _)); refine blk_put (cs := #[.slice Ao32 t118.length co32, .int .i64 0]) ?_ 1 _ rfl; (with_reducible repeat (first | refine blk_drewN ?_ _ | refine blk_drew ?_ | refine blk_alloc ?_ _)); refine blk_put (cs := #[.slice none 0 0, .int .i64 0]) ?_ 0 _ rfl; (with_reducible repeat (first | refine blk_drewN ?_ _ | refine blk_drew ?_ | refine blk_alloc ?_ _)); refine blk_far ?_ NB123_122.out _; (with_reducible repeat (first | refine blk_drewN ?_ _ | refine blk_drew ?_ | refine blk_alloc ?_ _)); refine blk_far ?_ NB123_122.out _; (with_reducible repeat (first | refine blk_drewN ?_ _ | refine blk_drew ?_ | refine blk_alloc ?_ _)); exact BK123.out⟩, ⟨by repeat (first | (with_reducible first | exact HB.out | apply below_alloc | apply pw_below_drewN | apply below_drew1 | refine below_set ?_ GE106.out | refine below_set ?_ GE110.out | refine below_set ?_ GE122.out | refine below_set ?_ GE123.out) | exact HB.out)⟩⟩
       ·rw [if_neg c113] at H
        have c113b0 : ((t117 == 2) != ((Int.tmod a2 2) == 0)) = false := by simpa using c113
        (try (have c113b1 : decide ((t117 == 2) = ((Int.tmod a2 2) == 0)) = true := by simpa using c113))
        (try (have c113b2 : ((t117 == 2) == ((Int.tmod a2 2) == 0)) = true := by simpa using c113))
        clear c113
        have H' := Aside0.mk H
        clear H
        have hnb123 := NB106_110.out
        have hnc123 := NB110_106.out
        have hnb124 := NB106_122.out
        have hnc124 := NB122_106.out
        have hnb125 := NB106_123.out
        have hnc125 := NB123_106.out
        have hcz126_0 : w26.cell? ⟨gb106, 0, none⟩ = some (.slice Ao14 t102.length co14) := (blk_cell BK106.out 0).trans rfl
        have hcz126_1 : w26.cell? ⟨gb106, 1, none⟩ = some (.int .i64 t105) := (blk_cell BK106.out 1).trans rfl
        have hfz126_0 := blk_frozen BK106.out 0
        have hfz126_1 := blk_frozen BK106.out 1
        have hnb127 := NB110_122.out
        have hnc127 := NB122_110.out
        have hnb128 := NB110_123.out
        have hnc128 := NB123_110.out
        have hcz129_0 : w26.cell? ⟨gb110, 0, none⟩ = some (.int .i64 t107) := (blk_cell BK110.out 0).trans rfl
        have hcz129_1 : w26.cell? ⟨gb110, 1, none⟩ = some (.int .i64 t108) := (blk_cell BK110.out 1).trans rfl
        have hcz129_2 : w26.cell? ⟨gb110, 2, none⟩ = some (.int .i64 t109) := (blk_cell BK110.out 2).trans rfl
        have hfz129_0 := blk_frozen BK110.out 0
        have hfz129_1 := blk_frozen BK110.out 1
        have hfz129_2 := blk_frozen BK110.out 2
        have hnb130 := NB122_123.out
        have hnc130 := NB123_122.out
        have hcz131_0 : w26.cell? ⟨gb122, 0, none⟩ = some (.slice none 0 0) := (blk_cell BK122.out 0).trans rfl
        have hcz131_1 : w26.cell? ⟨gb122, 1, none⟩ = some (.int .i64 0) := (blk_cell BK122.out 1).trans rfl
        have hfz131_0 := blk_frozen BK122.out 0
        have hfz131_1 := blk_frozen BK122.out 1
        have hcz132_0 : w26.cell? ⟨gb123, 0, none⟩ = some (.slice none 0 0) := (blk_cell BK123.out 0).trans rfl
        have hcz132_1 : w26.cell? ⟨gb123, 1, none⟩ = some (.int .i64 0) := (blk_cell BK123.out 1).trans rfl
        have hfz132_0 := blk_frozen BK123.out 0
        have hfz132_1 := blk_frozen BK123.out 1
        go_wp2
        go_meet
        case rel => exact ⟨_, ((t121 != 2)), (by first | rfl | (simp; done) | (simp [*]; done)), H', ⟨by first | omega | exact Nat.le_refl _⟩, ⟨by (with_reducible repeat (first | apply Kd.R_alloc | apply Kd.R_drewN | apply Kd.R_drew)); exact Kd.R_mono (Kd.R_far (p := ⟨gb123, 1, none⟩) (Kd.R_far (p := ⟨gb123, 0, none⟩) (Kd.R_far (p := ⟨gb122, 1, none⟩) (Kd.R_far (p := ⟨gb122, 0, none⟩) (Kd.R_types (Kd.R_types HO104.out BK122.out (by decide)) BK123.out (by decide)) (fun _ hk => hk.1.2) (.slice Ao27 t114.length co27)) (fun _ hk => hk.1.2) (.int .i64 t117)) (fun _ hk => hk.2) (.slice Ao32 t118.length co32)) (fun _ hk => hk.2) (.int .i64 t121)) (fun _ hk => ⟨hk.1.1.1.2, hk.1.1.2⟩)⟩, ⟨by (with_reducible repeat (first | apply Kd.R_alloc | apply Kd.R_drewN | apply Kd.R_drew)); exact Kd.R_mono (Kd.R_far (p := ⟨gb123, 1, none⟩) (Kd.R_far (p := ⟨gb123, 0, none⟩) (Kd.R_far (p := ⟨gb122, 1, none⟩) (Kd.R_far (p := ⟨gb122, 0, none⟩) (Kd.R_types (Kd.R_types HO116.out BK122.out (by decide)) BK123.out (by decide)) (fun _ hk => hk.1.2) (.slice Ao27 t114.length co27)) (fun _ hk => hk.1.2) (.int .i64 t117)) (fun _ hk => hk.2) (.slice Ao32 t118.length co32)) (fun _ hk => hk.2) (.int .i64 t121)) (fun _ hk => ⟨hk.1.1.1.1.2, hk.1.1.2⟩)⟩, ⟨by (with_reducible repeat (first | apply Kd.R_alloc | apply Kd.R_drewN | apply Kd.R_drew)); exact Kd.R_mono (Kd.R_far (p := ⟨gb123, 1, none⟩) (Kd.R_far (p := ⟨gb123, 0, none⟩) (Kd.R_far (p := ⟨gb122, 1, none⟩) (Kd.R_far (p := ⟨gb122, 0, none⟩) (Kd.R_types (Kd.R_types HO120.out BK122.out (by decide)) BK123.out (by decide)) (fun _ hk => hk.1.2) (.slice Ao27 t114.length co27)) (fun _ hk => hk.1.2) (.int .i64 t117)) (fun _ hk => hk.2) (.slice Ao32 t118.length co32)) (fun _ hk => hk.2) (.int .i64 t121)) (fun _ hk => ⟨hk.1.1.1.1.2, hk.1.1.2⟩)⟩, ⟨by (with_reducible repeat (first | refine blk_drewN ?_ _ | refine blk_drew ?_ | refine blk_alloc ?_ _)); refine blk_far ?_ NB106_123.out _; (with_reducible repeat (first | refine blk_drewN ?_ _ | refine blk_drew ?_ | refine blk_alloc ?_ _)); refine blk_far ?_ NB106_123.out _; (with_reducible repeat (first | refine blk_drewN ?_ _ | refine blk_drew ?_ | refine blk_alloc ?_ _)); refine blk_far ?_ NB106_122.out _; (with_reducible repeat (first | refine blk_drewN ?_ _ | refine blk_drew ?_ | refine blk_alloc ?_ _)); refine blk_far ?_ NB106_122.out _; (with_reducible repeat (first | refine blk_drewN ?_ _ | refine blk_drew ?_ | refine blk_alloc ?_ _)); exact BK106.out⟩, ⟨by (with_reducible repeat (first | refine blk_drewN ?_ _ | refine blk_drew ?_ | refine blk_alloc ?_ _)); refine blk_far ?_ NB110_123.out _; (with_reducible repeat (first | refine blk_drewN ?_ _ | refine blk_drew ?_ | refine blk_alloc ?_ _)); refine blk_far ?_ NB110_123.out _; (with_reducible repeat (first | refine blk_drewN ?_ _ | refine blk_drew ?_ | refine blk_alloc ?_ _)); refine blk_far ?_ NB110_122.out _; (with_reducible repeat (first | refine blk_drewN ?_ _ | refine blk_drew ?_ | refine blk_alloc ?_ _)); refine blk_far ?_ NB110_122.out _; (with_reducible repeat (first | refine blk_drewN ?_ _ | refine blk_drew ?_ | refine blk_alloc ?_ _)); exact BK110.out⟩, ⟨by (with_reducible repeat (first | refine blk_drewN ?_ _ | refine blk_drew ?_ | refine blk_alloc ?_ _)); refine blk_far ?_ NB122_123.out _; (with_reducible repeat (first | refine blk_drewN ?_ _ | refine blk_drew ?_ | refine blk_alloc ?_ _)); refine blk_far ?_ NB122_123.out _; (with_reducible repeat (first | refine blk_drewN ?_ _ | refine blk_drew ?_ | refine blk_alloc ?_ _)); refine blk_put (cs := #[.slice Ao27 t114.length co27, .int .i64 0]) ?_ 1 _ rfl; (with_reducible repeat (first | refine blk_drewN ?_ _ | refine blk_drew ?_ | refine blk_alloc ?_ _)); refine blk_put (cs := #[.slice none 0 0, .int .i64 0]) ?_ 0 _ rfl; (with_reducible repeat (first | refine blk_drewN ?_ _ | refine blk_drew ?_ | refine blk_alloc ?_ _)); exact BK122.out⟩, ⟨by (with_reducible repeat (first | refine blk_drewN ?_ _ | refine blk_drew ?_ | refine blk_alloc ?_ _)); refine blk_put (cs := #[.slice Ao32 t118.length co32, .int .i64 0]) ?_ 1 _ rfl; (with_reducible repeat (first | refine blk_drewN ?_ _ | refine blk_drew ?_ | refine blk_alloc ?_ _)); refine blk_put (cs := #[.slice none 0 0, .int .i64 0]) ?_ 0 _ rfl; (with_reducible repeat (first | refine blk_drewN ?_ _ | refine blk_drew ?_ | refine blk_alloc ?_ _)); refine blk_far ?_ NB123_122.out _; (with_reducible repeat (first | refine blk_drewN ?_ _ | refine blk_drew ?_ | refine blk_alloc ?_ _)); refine blk_far ?_ NB123_122.out _; (with_reducible repeat (first | refine blk_drewN ?_ _ | refine blk_drew ?_ | refine blk_alloc ?_ _)); exact BK123.out⟩, ⟨by repeat (first | (with_reducible first | exact HB.out | apply below_alloc | apply pw_below_drewN | apply below_drew1 | refine below_set ?_ GE106.out | refine below_set ?_ GE110.out | refine below_set ?_ GE122.out | refine below_set ?_ GE123.out) | exact HB.out)⟩⟩
     ·rw [if_neg c104] at H
      have c104b0 : decide (a1 < 0) = false := decide_eq_false c104
      clear c104
      by_cases c133 : ((t109 == 1) != (decide (a1 > 1073741824))) = true
      ·rw [if_pos c133] at H
       have c133b0 : ((t109 == 1) != (decide (a1 > 1073741824))) = true := c133
       (try (have c133b1 : decide ((t109 == 1) = (decide (a1 > 1073741824))) = false := by simpa using c133))
       (try (have c133b2 : ((t109 == 1) == (decide (a1 > 1073741824))) = false := by simpa using c133))
       (try (have c133b3 : ¬ ((t109 == 1) = (decide (a1 > 1073741824))) := by simpa using c133))
       clear c133
       have H' := Aside0.mk H
       clear H
       have hnb134 := NB106_110.out
       have hnc134 := NB110_106.out
       have hnb135 := NB106_122.out
       have hnc135 := NB122_106.out
       have hnb136 := NB106_123.out
       have hnc136 := NB123_106.out
       have hcz137_0 : w26.cell? ⟨gb106, 0, none⟩ = some (.slice Ao14 t102.length co14) := (blk_cell BK106.out 0).trans rfl
       have hcz137_1 : w26.cell? ⟨gb106, 1, none⟩ = some (.int .i64 t105) := (blk_cell BK106.out 1).trans rfl
       have hfz137_0 := blk_frozen BK106.out 0
       have hfz137_1 := blk_frozen BK106.out 1
       have hnb138 := NB110_122.out
       have hnc138 := NB122_110.out
       have hnb139 := NB110_123.out
       have hnc139 := NB123_110.out
       have hcz140_0 : w26.cell? ⟨gb110, 0, none⟩ = some (.int .i64 t107) := (blk_cell BK110.out 0).trans rfl
       have hcz140_1 : w26.cell? ⟨gb110, 1, none⟩ = some (.int .i64 t108) := (blk_cell BK110.out 1).trans rfl
       have hcz140_2 : w26.cell? ⟨gb110, 2, none⟩ = some (.int .i64 t109) := (blk_cell BK110.out 2).trans rfl
       have hfz140_0 := blk_frozen BK110.out 0
       have hfz140_1 := blk_frozen BK110.out 1
       have hfz140_2 := blk_frozen BK110.out 2
       go_wp2
       go_meet
       case rel => exact ⟨_, (true), (by first | rfl | (simp; done) | (simp [*]; done)), H', ⟨by first | omega | exact Nat.le_refl _⟩, ⟨by (with_reducible repeat (first | apply Kd.R_alloc | apply Kd.R_drewN | apply Kd.R_drew)); exact Kd.R_mono (Kd.R_far (p := ⟨gb123, 1, none⟩) (Kd.R_far (p := ⟨gb123, 0, none⟩) (Kd.R_far (p := ⟨gb122, 1, none⟩) (Kd.R_far (p := ⟨gb122, 0, none⟩) (Kd.R_types (Kd.R_types HO104.out BK122.out (by decide)) BK123.out (by decide)) (fun _ hk => hk.1.2) (.slice Ao27 t114.length co27)) (fun _ hk => hk.1.2) (.int .i64 t117)) (fun _ hk => hk.2) (.slice Ao32 t118.length co32)) (fun _ hk => hk.2) (.int .i64 t121)) (fun _ hk => ⟨hk.1.1.1.2, hk.1.1.2⟩)⟩, ⟨by (with_reducible repeat (first | apply Kd.R_alloc | apply Kd.R_drewN | apply Kd.R_drew)); exact Kd.R_mono (Kd.R_far (p := ⟨gb123, 1, none⟩) (Kd.R_far (p := ⟨gb123, 0, none⟩) (Kd.R_far (p := ⟨gb122, 1, none⟩) (Kd.R_far (p := ⟨gb122, 0, none⟩) (Kd.R_types (Kd.R_types HO116.out BK122.out (by decide)) BK123.out (by decide)) (fun _ hk => hk.1.2) (.slice Ao27 t114.length co27)) (fun _ hk => hk.1.2) (.int .i64 t117)) (fun _ hk => hk.2) (.slice Ao32 t118.length co32)) (fun _ hk => hk.2) (.int .i64 t121)) (fun _ hk => ⟨hk.1.1.1.1.2, hk.1.1.2⟩)⟩, ⟨by (with_reducible repeat (first | apply Kd.R_alloc | apply Kd.R_drewN | apply Kd.R_drew)); exact Kd.R_mono (Kd.R_far (p := ⟨gb123, 1, none⟩) (Kd.R_far (p := ⟨gb123, 0, none⟩) (Kd.R_far (p := ⟨gb122, 1, none⟩) (Kd.R_far (p := ⟨gb122, 0, none⟩) (Kd.R_types (Kd.R_types HO120.out BK122.out (by decide)) BK123.out (by decide)) (fun _ hk => hk.1.2) (.slice Ao27 t114.length co27)) (fun _ hk => hk.1.2) (.int .i64 t117)) (fun _ hk => hk.2) (.slice Ao32 t118.length co32)) (fun _ hk => hk.2) (.int .i64 t121)) (fun _ hk => ⟨hk.1.1.1.1.2, hk.1.1.2⟩)⟩, ⟨by (with_reducible repeat (first | refine blk_drewN ?_ _ | refine blk_drew ?_ | refine blk_alloc ?_ _)); refine blk_far ?_ NB106_123.out _; (with_reducible repeat (first | refine blk_drewN ?_ _ | refine blk_drew ?_ | refine blk_alloc ?_ _)); refine blk_far ?_ NB106_123.out _; (with_reducible repeat (first | refine blk_drewN ?_ _ | refine blk_drew ?_ | refine blk_alloc ?_ _)); refine blk_far ?_ NB106_122.out _; (with_reducible repeat (first | refine blk_drewN ?_ _ | refine blk_drew ?_ | refine blk_alloc ?_ _)); refine blk_far ?_ NB106_122.out _; (with_reducible repeat (first | refine blk_drewN ?_ _ | refine blk_drew ?_ | refine blk_alloc ?_ _)); exact BK106.out⟩, ⟨by (with_reducible repeat (first | refine blk_drewN ?_ _ | refine blk_drew ?_ | refine blk_alloc ?_ _)); refine blk_far ?_ NB110_123.out _; (with_reducible repeat (first | refine blk_drewN ?_ _ | refine blk_drew ?_ | refine blk_alloc ?_ _)); refine blk_far ?_ NB110_123.out _; (with_reducible repeat (first | refine blk_drewN ?_ _ | refine blk_drew ?_ | refine blk_alloc ?_ _)); refine blk_far ?_ NB110_122.out _; (with_reducible repeat (first | refine blk_drewN ?_ _ | refine blk_drew ?_ | refine blk_alloc ?_ _)); refine blk_far ?_ NB110_122.out _; (with_reducible repeat (first | refine blk_drewN ?_ _ | refine blk_drew ?_ | refine blk_alloc ?_ _)); exact BK110.out⟩, ⟨by (with_reducible repeat (first | refine blk_drewN ?_ _ | refine blk_drew ?_ | refine blk_alloc ?_ _)); refine blk_far ?_ NB122_123.out _; (with_reducible repeat (first | refine blk_drewN ?_ _ | refine blk_drew ?_ | refine blk_alloc ?_ _)); refine blk_far ?_ NB122_123.out _; (with_reducible repeat (first | refine blk_drewN ?_ _ | refine blk_drew ?_ | refine blk_alloc ?_ _)); refine blk_put (cs := #[.slice Ao27 t114.length co27, .int .i64 0]) ?_ 1 _ rfl; (with_reducible repeat (first | refine blk_drewN ?_ _ | refine blk_drew ?_ | refine blk_alloc ?_ _)); refine blk_put (cs := #[.slice none 0 0, .int .i64 0]) ?_ 0 _ rfl; (with_reducible repeat (first | refine blk_drewN ?_ _ | refine blk_drew ?_ | refine blk_alloc ?_ _)); exact BK122.out⟩, ⟨by (with_reducible repeat (first | refine blk_drewN ?_ _ | refine blk_drew ?_ | refine blk_alloc ?_ _)); refine blk_put (cs := #[.slice Ao32 t118.length co32, .int .i64 0]) ?_ 1 _ rfl; (with_reducible repeat (first | refine blk_drewN ?_ _ | refine blk_drew ?_ | refine blk_alloc ?_ _)); refine blk_put (cs := #[.slice none 0 0, .int .i64 0]) ?_ 0 _ rfl; (with_reducible repeat (first | refine blk_drewN ?_ _ | refine blk_drew ?_ | refine blk_alloc ?_ _)); refine blk_far ?_ NB123_122.out _; (with_reducible repeat (first | refine blk_drewN ?_ _ | refine blk_drew ?_ | refine blk_alloc ?_ _)); refine blk_far ?_ NB123_122.out _; (with_reducible repeat (first | refine blk_drewN ?_ _ | refine blk_drew ?_ | refine blk_alloc ?_ _)); exact BK123.out⟩, ⟨by repeat (first | (with_reducible first | exact HB.out | apply below_alloc | apply pw_below_drewN | apply below_drew1 | refine below_set ?_ GE106.out | refine below_set ?_ GE110.out | refine below_set ?_ GE122.out | refine below_set ?_ GE123.out) | exact HB.out)⟩⟩
      ·rw [if_neg c133] at H
       have c133b0 : ((t109 == 1) != (decide (a1 > 1073741824))) = false := by simpa using c133
       (try (have c133b1 : decide ((t109 == 1) = (decide (a1 > 1073741824))) = true := by simpa using c133))
       (try (have c133b2 : ((t109 == 1) == (decide (a1 > 1073741824))) = true := by simpa using c133))
       clear c133
       by_cases c141 : ((t117 == 2) != ((Int.tmod a2 2) == 0)) = true
       ·rw [if_pos c141] at H
        have c141b0 : ((t117 == 2) != ((Int.tmod a2 2) == 0)) = true := c141
        (try (have c141b1 : decide ((t117 == 2) = ((Int.tmod a2 2) == 0)) = false := by simpa using c141))
        (try (have c141b2 : ((t117 == 2) == ((Int.tmod a2 2) == 0)) = false := by simpa using c141))
        (try (have c141b3 : ¬ ((t117 == 2) = ((Int.tmod a2 2) == 0)) := by simpa using c141))
        clear c141
        have H' := Aside0.mk H
        clear H
        have hnb142 := NB106_110.out
        have hnc142 := NB110_106.out
        have hnb143 := NB106_122.out
        have hnc143 := NB122_106.out
        have hnb144 := NB106_123.out
        have hnc144 := NB123_106.out
        have hcz145_0 : w26.cell? ⟨gb106, 0, none⟩ = some (.slice Ao14 t102.length co14) := (blk_cell BK106.out 0).trans rfl
        have hcz145_1 : w26.cell? ⟨gb106, 1, none⟩ = some (.int .i64 t105) := (blk_cell BK106.out 1).trans rfl
        have hfz145_0 := blk_frozen BK106.out 0
        have hfz145_1 := blk_frozen BK106.out 1
        have hnb146 := NB110_122.out
        have hnc146 := NB122_110.out
        have hnb147 := NB110_123.out
        have hnc147 := NB123_110.out
        have hcz148_0 : w26.cell? ⟨gb110, 0, none⟩ = some (.int .i64 t107) := (blk_cell BK110.out 0).trans rfl
        have hcz148_1 : w26.cell? ⟨gb110, 1, none⟩ = some (.int .i64 t108) := (blk_cell BK110.out 1).trans rfl
        have hcz148_2 : w26.cell? ⟨gb110, 2, none⟩ = some (.int .i64 t109) := (blk_cell BK110.out 2).trans rfl
        have hfz148_0 := blk_frozen BK110.out 0
        have hfz148_1 := blk_frozen BK110.out 1
        have hfz148_2 := blk_frozen BK110.out 2
        have hnb149 := NB122_123.out
        have hnc149 := NB123_122.out
        have hcz150_0 : w26.cell? ⟨gb122, 0, none⟩ = some (.slice none 0 0) := (blk_cell BK122.out 0).trans rfl
        have hcz150_1 : w26.cell? ⟨gb122, 1, none⟩ = some (.int .i64 0) := (blk_cell BK122.out 1).trans rfl
        have hfz150_0 := blk_frozen BK122.out 0
        have hfz150_1 := blk_frozen BK122.out 1
        go_wp2
        go_meet
        case rel => exact ⟨_, (true), (by first | rfl | (simp; done) | (simp [*]; done)), H', ⟨by first | omega | exact Nat.le_refl _⟩, ⟨by (with_reducible repeat (first | apply Kd.R_alloc | apply Kd.R_drewN | apply Kd.R_drew)); exact Kd.R_mono (Kd.R_far (p := ⟨gb123, 1, none⟩) (Kd.R_far (p := ⟨gb123, 0, none⟩) (Kd.R_far (p := ⟨gb122, 1, none⟩) (Kd.R_far (p := ⟨gb122, 0, none⟩) (Kd.R_types (Kd.R_types HO104.out BK122.out (by decide)) BK123.out (by decide)) (fun _ hk => hk.1.2) (.slice Ao27 t114.length co27)) (fun _ hk => hk.1.2) (.int .i64 t117)) (fun _ hk => hk.2) (.slice Ao32 t118.length co32)) (fun _ hk => hk.2) (.int .i64 t121)) (fun _ hk => ⟨hk.1.1.1.2, hk.1.1.2⟩)⟩, ⟨by (with_reducible repeat (first | apply Kd.R_alloc | apply Kd.R_drewN | apply Kd.R_drew)); exact Kd.R_mono (Kd.R_far (p := ⟨gb123, 1, none⟩) (Kd.R_far (p := ⟨gb123, 0, none⟩) (Kd.R_far (p := ⟨gb122, 1, none⟩) (Kd.R_far (p := ⟨gb122, 0, none⟩) (Kd.R_types (Kd.R_types HO116.out BK122.out (by decide)) BK123.out (by decide)) (fun _ hk => hk.1.2) (.slice Ao27 t114.length co27)) (fun _ hk => hk.1.2) (.int .i64 t117)) (fun _ hk => hk.2) (.slice Ao32 t118.length co32)) (fun _ hk => hk.2) (.int .i64 t121)) (fun _ hk => ⟨hk.1.1.1.1.2, hk.1.1.2⟩)⟩, ⟨by (with_reducible repeat (first | apply Kd.R_alloc | apply Kd.R_drewN | apply Kd.R_drew)); exact Kd.R_mono (Kd.R_far (p := ⟨gb123, 1, none⟩) (Kd.R_far (p := ⟨gb123, 0, none⟩) (Kd.R_far (p := ⟨gb122, 1, none⟩) (Kd.R_far (p := ⟨gb122, 0, none⟩) (Kd.R_types (Kd.R_types HO120.out BK122.out (by decide)) BK123.out (by decide)) (fun _ hk => hk.1.2) (.slice Ao27 t114.length co27)) (fun _ hk => hk.1.2) (.int .i64 t117)) (fun _ hk => hk.2) (.slice Ao32 t118.length co32)) (fun _ hk => hk.2) (.int .i64 t121)) (fun _ hk => ⟨hk.1.1.1.1.2, hk.1.1.2⟩)⟩, ⟨by (with_reducible repeat (first | refine blk_drewN ?_ _ | refine blk_drew ?_ | refine blk_alloc ?_ _)); refine blk_far ?_ NB106_123.out _; (with_reducible repeat (first | refine blk_drewN ?_ _ | refine blk_drew ?_ | refine blk_alloc ?_ _)); refine blk_far ?_ NB106_123.out _; (with_reducible repeat (first | refine blk_drewN ?_ _ | refine blk_drew ?_ | refine blk_alloc ?_ _)); refine blk_far ?_ NB106_122.out _; (with_reducible repeat (first | refine blk_drewN ?_ _ | refine blk_drew ?_ | refine blk_alloc ?_ _)); refine blk_far ?_ NB106_122.out _; (with_reducible repeat (first | refine blk_drewN ?_ _ | refine blk_drew ?_ | refine blk_alloc ?_ _)); exact BK106.out⟩, ⟨by (with_reducible repeat (first | refine blk_drewN ?_ _ | refine blk_drew ?_ | refine blk_alloc ?_ _)); refine blk_far ?_ NB110_123.out _; (with_reducible repeat (first | refine blk_drewN ?_ _ | refine blk_drew ?_ | refine blk_alloc ?_ _)); refine blk_far ?_ NB110_123.out _; (with_reducible repeat (first | refine blk_drewN ?_ _ | refine blk_drew ?_ | refine blk_alloc ?_ _)); refine blk_far ?_ NB110_122.out _; (with_reducible repeat (first | refine blk_drewN ?_ _ | refine blk_drew ?_ | refine blk_alloc ?_ _)); refine blk_far ?_ NB110_122.out _; (with_reducible repeat (first | refine blk_drewN ?_ _ | refine blk_drew ?_ | refine blk_alloc ?_ _)); exact BK110.out⟩, ⟨by (with_reducible repeat (first | refine blk_drewN ?_ _ | refine blk_drew ?_ | refine blk_alloc ?_ _)); refine blk_far ?_ NB122_123.out _; (with_reducible repeat (first | refine blk_drewN ?_ _ | refine blk_drew ?_ | refine blk_alloc ?_ _)); refine blk_far ?_ NB122_123.out _; (with_reducible repeat (first | refine blk_drewN ?_ _ | refine blk_drew ?_ | refine blk_alloc ?_ _)); refine blk_put (cs := #[.slice Ao27 t114.length co27, .int .i64 0]) ?_ 1 _ rfl; (with_reducible repeat (first | refine blk_drewN ?_ _ | refine blk_drew ?_ | refine blk_alloc ?_ _)); refine blk_put (cs := #[.slice none 0 0, .int .i64 0]) ?_ 0 _ rfl; (with_reducible repeat (first | refine blk_drewN ?_ _ | refine blk_drew ?_ | refine blk_alloc ?_ _)); exact BK122.out⟩, ⟨by (with_reducible repeat (first | refine blk_drewN ?_ _ | refine blk_drew ?_ | refine blk_alloc ?_ _)); refine blk_put (cs := #[.slice Ao32 t118.length co32, .int .i64 0]) ?_ 1 _ rfl; (with_reducible repeat (first | refine blk_drewN ?_ _ | refine blk_drew ?_ | refine blk_alloc ?_ _)); refine blk_put (cs := #[.slice none 0 0, .int .i64 0]) ?_ 0 _ rfl; (with_reducible repeat (first | refine blk_drewN ?_ _ | refine blk_drew ?_ | refine blk_alloc ?_ _)); refine blk_far ?_ NB123_122.out _; (with_reducible repeat (first | refine blk_drewN ?_ _ | refine blk_drew ?_ | refine blk_alloc ?_ _)); refine blk_far ?_ NB123_122.out _; (with_reducible repeat (first | refine blk_drewN ?_ _ | refine blk_drew ?_ | refine blk_alloc ?_ _)); exact BK123.out⟩, ⟨by repeat (first | (with_reducible first | exact HB.out | apply below_alloc | apply pw_below_drewN | apply below_drew1 | refine below_set ?_ GE106.out | refine below_set ?_ GE110.out | refine below_set ?_ GE122.out | refine below_set ?_ GE123.out) | exact HB.out)⟩⟩
       ·rw [if_neg c141] at H
        have c141b0 : ((t117 == 2) != ((Int.tmod a2 2) == 0)) = false := by simpa using c141
        (try (have c141b1 : decide ((t117 == 2) = ((Int.tmod a2 2) == 0)) = true := by simpa using c141))
        (try (have c141b2 : ((t117 == 2) == ((Int.tmod a2 2) == 0)) = true := by simpa using c141))
        clear c141
        have H' := Aside0.mk H
        clear H
        have hnb151 := NB106_110.out
        have hnc151 := NB110_106.out
        have hnb152 := NB106_122.out
        have hnc152 := NB122_106.out
        have hnb153 := NB106_123.out
        have hnc153 := NB123_106.out
        have hcz154_0 : w26.cell? ⟨gb106, 0, none⟩ = some (.slice Ao14 t102.length co14) := (blk_cell BK106.out 0).trans rfl
        have hcz154_1 : w26.cell? ⟨gb106, 1, none⟩ = some (.int .i64 t105) := (blk_cell BK106.out 1).trans rfl
        have hfz154_0 := blk_frozen BK106.out 0
        have hfz154_1 := blk_frozen BK106.out 1
        have hnb155 := NB110_122.out
        have hnc155 := NB122_110.out
        have hnb156 := NB110_123.out
        have hnc156 := NB123_110.out
        have hcz157_0 : w26.cell? ⟨gb110, 0, none⟩ = some (.int .i64 t107) := (blk_cell BK110.out 0).trans rfl
        have hcz157_1 : w26.cell? ⟨gb110, 1, none⟩ = some (.int .i64 t108) := (blk_cell BK110.out 1).trans rfl
        have hcz157_2 : w26.cell? ⟨gb110, 2, none⟩ = some (.int .i64 t109) := (blk_cell BK110.out 2).trans rfl
        have hfz157_0 := blk_frozen BK110.out 0
        have hfz157_1 := blk_frozen BK110.out 1
        have hfz157_2 := blk_frozen BK110.out 2
        have hnb158 := NB122_123.out
        have hnc158 := NB123_122.out
        have hcz159_0 : w26.cell? ⟨gb122, 0, none⟩ = some (.slice none 0 0) := (blk_cell BK122.out 0).trans rfl
        have hcz159_1 : w26.cell? ⟨gb122, 1, none⟩ = some (.int .i64 0) := (blk_cell BK122.out 1).trans rfl
        have hfz159_0 := blk_frozen BK122.out 0
        have hfz159_1 := blk_frozen BK122.out 1
        have hcz160_0 : w26.cell? ⟨gb123, 0, none⟩ = some (.slice none 0 0) := (blk_cell BK123.out 0).trans rfl
        have hcz160_1 : w26.cell? ⟨gb123, 1, none⟩ = some (.int .i64 0) := (blk_cell BK123.out 1).trans rfl
        have hfz160_0 := blk_frozen BK123.out 0
        have hfz160_1 := blk_frozen BK123.out 1
        go_wp2
        go_meet
        case rel => exact ⟨_, ((t121 != 2)), (by first | rfl | (simp; done) | (simp [*]; done)), H', ⟨by first | omega | exact Nat.le_refl _⟩, ⟨by (with_reducible repeat (first | apply Kd.R_alloc | apply Kd.R_drewN | apply Kd.R_drew)); exact Kd.R_mono (Kd.R_far (p := ⟨gb123, 1, none⟩) (Kd.R_far (p := ⟨gb123, 0, none⟩) (Kd.R_far (p := ⟨gb122, 1, none⟩) (Kd.R_far (p := ⟨gb122, 0, none⟩) (Kd.R_types (Kd.R_types HO104.out BK122.out (by decide)) BK123.out (by decide)) (fun _ hk => hk.1.2) (.slice Ao27 t114.length co27)) (fun _ hk => hk.1.2) (.int .i64 t117)) (fun _ hk => hk.2) (.slice Ao32 t118.length co32)) (fun _ hk => hk.2) (.int .i64 t121)) (fun _ hk => ⟨hk.1.1.1.2, hk.1.1.2⟩)⟩, ⟨by (with_reducible repeat (first | apply Kd.R_alloc | apply Kd.R_drewN | apply Kd.R_drew)); exact Kd.R_mono (Kd.R_far (p := ⟨gb123, 1, none⟩) (Kd.R_far (p := ⟨gb123, 0, none⟩) (Kd.R_far (p := ⟨gb122, 1, none⟩) (Kd.R_far (p := ⟨gb122, 0, none⟩) (Kd.R_types (Kd.R_types HO116.out BK122.out (by decide)) BK123.out (by decide)) (fun _ hk => hk.1.2) (.slice Ao27 t114.length co27)) (fun _ hk => hk.1.2) (.int .i64 t117)) (fun _ hk => hk.2) (.slice Ao32 t118.length co32)) (fun _ hk => hk.2) (.int .i64 t121)) (fun _ hk => ⟨hk.1.1.1.1.2, hk.1.1.2⟩)⟩, ⟨by (with_reducible repeat (first | apply Kd.R_alloc | apply Kd.R_drewN | apply Kd.R_drew)); exact Kd.R_mono (Kd.R_far (p := ⟨gb123, 1, none⟩) (Kd.R_far (p := ⟨gb123, 0, none⟩) (Kd.R_far (p := ⟨gb122, 1, none⟩) (Kd.R_far (p := ⟨gb122, 0, none⟩) (Kd.R_types (Kd.R_types HO120.out BK122.out (by decide)) BK123.out (by decide)) (fun _ hk => hk.1.2) (.slice Ao27 t114.length co27)) (fun _ hk => hk.1.2) (.int .i64 t117)) (fun _ hk => hk.2) (.slice Ao32 t118.length co32)) (fun _ hk => hk.2) (.int .i64 t121)) (fun _ hk => ⟨hk.1.1.1.1.2, hk.1.1.2⟩)⟩, ⟨by (with_reducible repeat (first | refine blk_drewN ?_ _ | refine blk_drew ?_ | refine blk_alloc ?_ _)); refine blk_far ?_ NB106_123.out _; (with_reducible repeat (first | refine blk_drewN ?_ _ | refine blk_drew ?_ | refine blk_alloc ?_ _)); refine blk_far ?_ NB106_123.out _; (with_reducible repeat (first | refine blk_drewN ?_ _ | refine blk_drew ?_ | refine blk_alloc ?_ _)); refine blk_far ?_ NB106_122.out _; (with_reducible repeat (first | refine blk_drewN ?_ _ | refine blk_drew ?_ | refine blk_alloc ?_ _)); refine blk_far ?_ NB106_122.out _; (with_reducible repeat (first | refine blk_drewN ?_ _ | refine blk_drew ?_ | refine blk_alloc ?_ _)); exact BK106.out⟩, ⟨by (with_reducible repeat (first | refine blk_drewN ?_ _ | refine blk_drew ?_ | refine blk_alloc ?_ _)); refine blk_far ?_ NB110_123.out _; (with_reducible repeat (first | refine blk_drewN ?_ _ | refine blk_drew ?_ | refine blk_alloc ?_ _)); refine blk_far ?_ NB110_123.out _; (with_reducible repeat (first | refine blk_drewN ?_ _ | refine blk_drew ?_ | refine blk_alloc ?_ _)); refine blk_far ?_ NB110_122.out _; (with_reducible repeat (first | refine blk_drewN ?_ _ | refine blk_drew ?_ | refine blk_alloc ?_ _)); refine blk_far ?_ NB110_122.out _; (with_reducible repeat (first | refine blk_drewN ?_ _ | refine blk_drew ?_ | refine blk_alloc ?_ _)); exact BK110.out⟩, ⟨by (with_reducible repeat (first | refine blk_drewN ?_ _ | refine blk_drew ?_ | refine blk_alloc ?_ _)); refine blk_far ?_ NB122_123.out _; (with_reducible repeat (first | refine blk_drewN ?_ _ | refine blk_drew ?_ | refine blk_alloc ?_ _)); refine blk_far ?_ NB122_123.out _; (with_reducible repeat (first | refine blk_drewN ?_ _ | refine blk_drew ?_ | refine blk_alloc ?_ _)); refine blk_put (cs := #[.slice Ao27 t114.length co27, .int .i64 0]) ?_ 1 _ rfl; (with_reducible repeat (first | refine blk_drewN ?_ _ | refine blk_drew ?_ | refine blk_alloc ?_ _)); refine blk_put (cs := #[.slice none 0 0, .int .i64 0]) ?_ 0 _ rfl; (with_reducible repeat (first | refine blk_drewN ?_ _ | refine blk_drew ?_ | refine blk_alloc ?_ _)); exact BK122.out⟩, ⟨by (with_reducible repeat (first | refine blk_drewN ?_ _ | refine blk_drew ?_ | refine blk_alloc ?_ _)); refine blk_put (cs := #[.slice Ao32 t118.length co32, .int .i64 0]) ?_ 1 _ rfl; (with_reducible repeat (first | refine blk_drewN ?_ _ | refine blk_drew ?_ | refine blk_alloc ?_ _)); refine blk_put (cs := #[.slice none 0 0, .int .i64 0]) ?_ 0 _ rfl; (with_reducible repeat (first | refine blk_drewN ?_ _ | refine blk_drew ?_ | refine blk_alloc ?_ _)); refine blk_far ?_ NB123_122.out _; (with_reducible repeat (first | refine blk_drewN ?_ _ | refine blk_drew ?_ | refine blk_alloc ?_ _)); refine blk_far ?_ NB123_122.out _; (with_reducible repeat (first | refine blk_drewN ?_ _ | refine blk_drew ?_ | refine blk_alloc ?_ _)); exact BK123.out⟩, ⟨by repeat (first | (with_reducible first | exact HB.out | apply below_alloc | apply pw_below_drewN | apply below_drew1 | refine below_set ?_ GE106.out | refine below_set ?_ GE110.out | refine below_set ?_ GE122.out | refine below_set ?_ GE123.out) | exact HB.out)⟩⟩
  case rest =>
   clear HC10
   try clear c1
   try clear c2
   try clear p2
   try clear c3
   try clear c4
   try clear c5
   try clear c6
   try clear p6
   try clear c7
   try clear c8
   try clear c9
   try clear c10
   try clear c11
   try clear c12
   try clear c13
   try clear c14
   try clear c15
   try clear c18
   try clear c20
   try clear c24
   try clear c26
   try clear c28
   try clear c29
   try clear c30
   try clear c33
   try clear c34
   try clear c36
   try clear c36b0
   try clear c37
   try clear c37b0
   try clear c37b1
   try clear c37b2
   try clear c38
   try clear c39
   try clear c40
   try clear c42
   try clear c42b0
   try clear c43
   try clear c43b0
   try clear c43b1
   try clear c43b2
   try clear c44
   try clear c45
   try clear c46
   try clear c48
   try clear c49
   try clear c51
   try clear c51b0
   try clear c51b1
   try clear c51b2
   try clear c52
   try clear c53
   try clear c54
   try clear c56
   try clear c57
   try clear c59
   try clear c61
   try clear c62
   try clear c63
   try clear p64
   try clear c65
   try clear c66
   try clear c68
   try clear c71
   try clear c71b0
   try clear c71b1
   try clear c71b2
   try clear c72
   try clear c73
   try clear c74
   try clear c76
   try clear c77
   try clear c79
   try clear c79b0
   try clear c79b1
   try clear c79b2
   try clear c80
   try clear c81
   try clear c82
   try clear c84
   try clear c85
   try clear c87
   try clear c89
   try clear c90
   try clear c91
   try clear c93
   try clear c94
   try clear c96
   try clear c99
   try clear c99b0
   try clear c99b1
   try clear c99b2
   try clear c100
   try clear c101
   try clear c102
   try clear c104
   try clear c104b0
   try clear c105
   try clear c105b0
   try clear c105b1
   try clear c105b2
   try clear c106
   try clear c107
   try clear c108
   try clear c110
   try clear c111
   try clear c113
   try clear c113b0
   try clear c113b1
   try clear c113b2
   try clear c114
   try clear c115
   try clear c116
   try clear c118
   try clear c119
   try clear c121
   try clear c123
   try clear c124
   try clear c125
   try clear c127
   try clear c128
   try clear c130
   try clear c133
   try clear c133b0
   try clear c133b1
   try clear c133b2
   try clear c134
   try clear c135
   try clear c136
   try clear c138
   try clear c139
   try clear c141
   try clear c141b0
   try clear c141b1
   try clear c141b2
   try clear c142
   try clear c143
   try clear c144
   try clear c146
   try clear c147
   try clear c149
   try clear c151
   try clear c152
   try clear c153
   try clear c155
   try clear c156
   try clear c158
   try clear hcz103_0
   try clear hcz103_1
   try clear hcz109_0
   try clear hcz109_1
   try clear hcz112_0
   try clear hcz112_1
   try clear hcz112_2
   try clear hcz117_0
   try clear hcz117_1
   try clear hcz120_0
   try clear hcz120_1
   try clear hcz120_2
   try clear hcz122_0
   try clear hcz122_1
   try clear hcz126_0
   try clear hcz126_1
   try clear hcz129_0
   try clear hcz129_1
   try clear hcz129_2
   try clear hcz131_0
   try clear hcz131_1
   try clear hcz132_0
   try clear hcz132_1
   try clear hcz137_0
   try clear hcz137_1
   try clear hcz140_0
   try clear hcz140_1
   try clear hcz140_2
   try clear hcz145_0
   try clear hcz145_1
   try clear hcz148_0
   try clear hcz148_1
   try clear hcz148_2
   try clear hcz150_0
   try clear hcz150_1
   try clear hcz154_0
   try clear hcz154_1
   try clear hcz157_0
   try clear hcz157_1
   try clear hcz157_2
   try clear hcz159_0
   try clear hcz159_1
   try clear hcz15_0
   try clear hcz15_1
   try clear hcz160_0
   try clear hcz160_1
   try clear hcz19_0
   try clear hcz19_1
   try clear hcz19_2
   try clear hcz31_0
   try clear hcz31_1
   try clear hcz35_0
   try clear hcz35_1
   try clear hcz41_0
   try clear hcz41_1
   try clear hcz47_0
   try clear hcz47_1
   try clear hcz50_0
   try clear hcz50_1
   try clear hcz50_2
   try clear hcz55_0
   try clear hcz55_1
   try clear hcz58_0
   try clear hcz58_1
   try clear hcz58_2
   try clear hcz60_0
   try clear hcz60_1
   try clear hcz64_0
   try clear hcz64_1
   try clear hcz67_0
   try clear hcz67_1
   try clear hcz67_2
   try clear hcz69_0
   try clear hcz69_1
   try clear hcz70_0
   try clear hcz70_1
   try clear hcz75_0
   try clear hcz75_1
   try clear hcz78_0
   try clear hcz78_1
   try clear hcz78_2
   try clear hcz83_0
   try clear hcz83_1
   try clear hcz86_0
   try clear hcz86_1
   try clear hcz86_2
   try clear hcz88_0
   try clear hcz88_1
   try clear hcz92_0
   try clear hcz92_1
   try clear hcz95_0
   try clear hcz95_1
   try clear hcz95_2
   try clear hcz97_0
   try clear hcz97_1
   try clear hcz98_0
   try clear hcz98_1
   try clear hfz103_0
   try clear hfz103_1
   try clear hfz109_0
   try clear hfz109_1
   try clear hfz112_0
   try clear hfz112_1
   try clear hfz112_2
   try clear hfz117_0
   try clear hfz117_1
   try clear hfz120_0
   try clear hfz120_1
   try clear hfz120_2
   try clear hfz122_0
   try clear hfz122_1
   try clear hfz126_0
   try clear hfz126_1
   try clear hfz129_0
   try clear hfz129_1
   try clear hfz129_2
   try clear hfz131_0
   try clear hfz131_1
   try clear hfz132_0
   try clear hfz132_1
   try clear hfz137_0
   try clear hfz137_1
   try clear hfz140_0
   try clear hfz140_1
   try clear hfz140_2
   try clear hfz145_0
   try clear hfz145_1
   try clear hfz148_0
   try clear hfz148_1
   try clear hfz148_2
   try clear hfz150_0
   try clear hfz150_1
   try clear hfz154_0
   try clear hfz154_1
   try clear hfz157_0
   try clear hfz157_1
   try clear hfz157_2
   try clear hfz159_0
   try clear hfz159_1
   try clear hfz15_0
   try clear hfz15_1
   try clear hfz160_0
   try clear hfz160_1
   try clear hfz19_0
   try clear hfz19_1
   try clear hfz19_2
   try clear hfz31_0
   try clear hfz31_1
   try clear hfz35_0
   try clear hfz35_1
   try clear hfz41_0
   try clear hfz41_1
   try clear hfz47_0
   try clear hfz47_1
   try clear hfz50_0
   try clear hfz50_1
   try clear hfz50_2
   try clear hfz55_0
   try clear hfz55_1
   try clear hfz58_0
   try clear hfz58_1
   try clear hfz58_2
   try clear hfz60_0
   try clear hfz60_1
   try clear hfz64_0
   try clear hfz64_1
   try clear hfz67_0
   try clear hfz67_1
   try clear hfz67_2
   try clear hfz69_0
   try clear hfz69_1
   try clear hfz70_0
   try clear hfz70_1
   try clear hfz75_0
   try clear hfz75_1
   try clear hfz78_0
   try clear hfz78_1
   try clear hfz78_2
   try clear hfz83_0
   try clear hfz83_1
   try clear hfz86_0
   try clear hfz86_1
   try clear hfz86_2
   try clear hfz88_0
   try clear hfz88_1
   try clear hfz92_0
   try clear hfz92_1
   try clear hfz95_0
   try clear hfz95_1
   try clear hfz95_2
   try clear hfz97_0
   try clear hfz97_1
   try clear hfz98_0
   try clear hfz98_1
   obtain ⟨kq, x68_9, rfl, HA, HJ9, HO_107000, HO_123000, HO_124000, BK106, BK110, BK122, BK123, HB⟩ := hcut
   cases kq with
   | zero => exact absurd HA.out (by simp [parolelaw37_OddsRefuses.j0])
   | succ kj9 =>
    have H := HA.out
    clear HA
    simp only [parolelaw37_OddsRefuses.j0] at H
    by_cases c161 : x68_9 = true
    ·subst c161
     have H1 : (some false) = some r := by rw [if_pos rfl] at H; exact H
     clear H
     have H := H1
     clear H1
     obtain rfl := Option.some.inj H
     go_wp2
     go_ret
     exact ⟨by first | rfl | (simp [errW_none, errW_some] <;> rfl) | (simp [*, errW_none, errW_some] <;> rfl), by repeat (first | (with_reducible first | exact HB.out | apply below_alloc | apply pw_below_drewN | apply below_drew1 | refine below_set ?_ GE106.out | refine below_set ?_ GE110.out | refine below_set ?_ GE122.out | refine below_set ?_ GE123.out) | exact HB.out)⟩
    ·replace c161 := Bool.eq_false_iff.mpr c161
     subst c161
     have H1 : (parolelaw37_OddsRefuses.l0 kj9 true (([(([(⟨5, 0, 0⟩ : S71), (⟨5, 0, 0⟩ : S71)] : List (S71))), (([(⟨6, 0, 0⟩ : S71), (⟨5, 0, 0⟩ : S71)] : List (S71))), (([(⟨5, (-1), 0⟩ : S71)] : List (S71))), (([(⟨5, 0, 1073741825⟩ : S71)] : List (S71))), (([(⟨0, 0, 0⟩ : S71)] : List (S71)))] : List (List (S71)))) 0) = some r := by rw [if_neg (show ¬ (false = true) by decide)] at H; exact H
     clear H
     have H := H1
     clear H1
     obtain ⟨y124, hy124⟩ : ∃ y_ : List (S71), y_ = (([(⟨5, 0, 0⟩ : S71), (⟨5, 0, 0⟩ : S71)] : List (S71))) := ⟨_, rfl⟩
     replace H : (parolelaw37_OddsRefuses.l0 kj9 true (([y124, (([(⟨6, 0, 0⟩ : S71), (⟨5, 0, 0⟩ : S71)] : List (S71))), (([(⟨5, (-1), 0⟩ : S71)] : List (S71))), (([(⟨5, 0, 1073741825⟩ : S71)] : List (S71))), (([(⟨0, 0, 0⟩ : S71)] : List (S71)))] : List (List (S71)))) 0) = some r := by first | (rw [hy124]; with_reducible exact H) | (have H2_ := (Option.bind_some _ _).symm.trans H; rw [hy124]; with_reducible exact H2_) | (have H2_ := (Option.bind_some _ _).symm.trans H; with_reducible exact H2_) | with_reducible exact H | (rw [hy124]; exact H) | exact H
     have Ny124 := Aside0.mk hy124
     clear hy124
     obtain ⟨y127, hy127⟩ : ∃ y_ : List (S71), y_ = (([(⟨6, 0, 0⟩ : S71), (⟨5, 0, 0⟩ : S71)] : List (S71))) := ⟨_, rfl⟩
     replace H : (parolelaw37_OddsRefuses.l0 kj9 true (([y124, y127, (([(⟨5, (-1), 0⟩ : S71)] : List (S71))), (([(⟨5, 0, 1073741825⟩ : S71)] : List (S71))), (([(⟨0, 0, 0⟩ : S71)] : List (S71)))] : List (List (S71)))) 0) = some r := by first | (rw [hy127]; with_reducible exact H) | (have H2_ := (Option.bind_some _ _).symm.trans H; rw [hy127]; with_reducible exact H2_) | (have H2_ := (Option.bind_some _ _).symm.trans H; with_reducible exact H2_) | with_reducible exact H | (rw [hy127]; exact H) | exact H
     have Ny127 := Aside0.mk hy127
     clear hy127
     obtain ⟨y130, hy130⟩ : ∃ y_ : List (S71), y_ = (([(⟨5, (-1), 0⟩ : S71)] : List (S71))) := ⟨_, rfl⟩
     replace H : (parolelaw37_OddsRefuses.l0 kj9 true (([y124, y127, y130, (([(⟨5, 0, 1073741825⟩ : S71)] : List (S71))), (([(⟨0, 0, 0⟩ : S71)] : List (S71)))] : List (List (S71)))) 0) = some r := by first | (rw [hy130]; with_reducible exact H) | (have H2_ := (Option.bind_some _ _).symm.trans H; rw [hy130]; with_reducible exact H2_) | (have H2_ := (Option.bind_some _ _).symm.trans H; with_reducible exact H2_) | with_reducible exact H | (rw [hy130]; exact H) | exact H
     have Ny130 := Aside0.mk hy130
     clear hy130
     obtain ⟨y133, hy133⟩ : ∃ y_ : List (S71), y_ = (([(⟨5, 0, 1073741825⟩ : S71)] : List (S71))) := ⟨_, rfl⟩
     replace H : (parolelaw37_OddsRefuses.l0 kj9 true (([y124, y127, y130, y133, (([(⟨0, 0, 0⟩ : S71)] : List (S71)))] : List (List (S71)))) 0) = some r := by first | (rw [hy133]; with_reducible exact H) | (have H2_ := (Option.bind_some _ _).symm.trans H; rw [hy133]; with_reducible exact H2_) | (have H2_ := (Option.bind_some _ _).symm.trans H; with_reducible exact H2_) | with_reducible exact H | (rw [hy133]; exact H) | exact H
     have Ny133 := Aside0.mk hy133
     clear hy133
     obtain ⟨y136, hy136⟩ : ∃ y_ : List (S71), y_ = (([(⟨0, 0, 0⟩ : S71)] : List (S71))) := ⟨_, rfl⟩
     replace H : (parolelaw37_OddsRefuses.l0 kj9 true (([y124, y127, y130, y133, y136] : List (List (S71)))) 0) = some r := by first | (rw [hy136]; with_reducible exact H) | (have H2_ := (Option.bind_some _ _).symm.trans H; rw [hy136]; with_reducible exact H2_) | (have H2_ := (Option.bind_some _ _).symm.trans H; with_reducible exact H2_) | with_reducible exact H | (rw [hy136]; exact H) | exact H
     have Ny136 := Aside0.mk hy136
     clear hy136
     obtain ⟨y139, hy139⟩ : ∃ y_ : List (List (S71)), y_ = (([y124, y127, y130, y133, y136] : List (List (S71)))) := ⟨_, rfl⟩
     replace H : (parolelaw37_OddsRefuses.l0 kj9 true y139 0) = some r := by first | (rw [hy139]; with_reducible exact H) | (have H2_ := (Option.bind_some _ _).symm.trans H; rw [hy139]; with_reducible exact H2_) | (have H2_ := (Option.bind_some _ _).symm.trans H; with_reducible exact H2_) | with_reducible exact H | (rw [hy139]; exact H) | exact H
     have Ny139 := Aside0.mk hy139
     clear hy139
     have H' := Aside0.mk H
     clear H
     go_wp2_with (first | ((with_reducible refine gate_dst (N := 71) rfl ?_); refine Kd.R_lit k71 _ 71 ?hg (N := 71) ?hd (xs := ([(⟨5, 0, 0⟩ : S71), (⟨5, 0, 0⟩ : S71)] : List (S71))) (inner := [.int .i64 5, .int .i64 0, .int .i64 0, .int .i64 5, .int .i64 0, .int .i64 0]) (ok := fun _ => True) (okp := fun _ => True) ?hr ?hp (fun _ hk => hk) trivial (Below.refl _ _) (Nat.le_refl _) (by simp) ?_; (case hd => rfl); (case hg => rfl); (case hr => first | (go_simp; done) | (go_simp; rfl)); (case hp => exact (Reps.c3 (show Kd.M k71 _ _ _ (⟨5, 0, 0⟩ : S71) [.int .i64 5, .int .i64 0, .int .i64 0] from (k71_mkM _ _ _ (⟨5, 0, 0⟩ : S71) )) (Reps.c3 (show Kd.M k71 _ _ _ (⟨5, 0, 0⟩ : S71) [.int .i64 5, .int .i64 0, .int .i64 0] from (k71_mkM _ _ _ (⟨5, 0, 0⟩ : S71) )) (Reps.none _ _)))); intro v125 w162 ho163 hb hg_ hnew_; clear hg_ hnew_; (first | rw [← Ny124.out] at ho163 | (simp only [Int.reduceToNat] at ho163; rw [← Ny124.out] at ho163)); have n0_ := Aside0.mk (Kd.R_elder' (by (with_reducible repeat (first | apply Kd.R_alloc | apply Kd.R_drewN | apply Kd.R_drew)); exact HO_107000.out) (Kd.R_base ho163) hb); have n1_ := Aside0.mk (Kd.R_elder' (by (with_reducible repeat (first | apply Kd.R_alloc | apply Kd.R_drewN | apply Kd.R_drew)); exact HO_123000.out) (Kd.R_base ho163) hb); have n2_ := Aside0.mk (Kd.R_elder' (by (with_reducible repeat (first | apply Kd.R_alloc | apply Kd.R_drewN | apply Kd.R_drew)); exact HO_124000.out) (Kd.R_base ho163) hb); have n3_ := Aside0.mk (Kd.R_lower (Kd.R_new' (Kd.R_new' (Kd.R_new' ho163 (Kd.R_lt (by (with_reducible repeat (first | apply Kd.R_alloc | apply Kd.R_drewN | apply Kd.R_drew)); exact HO_107000.out))) (Kd.R_lt (by (with_reducible repeat (first | apply Kd.R_alloc | apply Kd.R_drewN | apply Kd.R_drew)); exact HO_123000.out))) (Kd.R_lt (by (with_reducible repeat (first | apply Kd.R_alloc | apply Kd.R_drewN | apply Kd.R_drew)); exact HO_124000.out))) (below_size (by repeat (first | (with_reducible first | exact HB.out | apply below_alloc | apply pw_below_drewN | apply below_drew1 | refine below_set ?_ GE106.out | refine below_set ?_ GE110.out | refine below_set ?_ GE122.out | refine below_set ?_ GE123.out) | exact HB.out)))); have n4_ := Aside0.mk (blk_below (g := gb106) (o := .cells #[.slice Ao14 t102.length co14, .int .i64 t105] 32 (0, 0)) (by (with_reducible repeat (first | refine blk_drewN ?_ _ | refine blk_drew ?_ | refine blk_alloc ?_ _)); exact BK106.out) hb); have n5_ := Aside0.mk (blk_below (g := gb110) (o := .cells #[.int .i64 t107, .int .i64 t108, .int .i64 t109] 38 (0, 0)) (by (with_reducible repeat (first | refine blk_drewN ?_ _ | refine blk_drew ?_ | refine blk_alloc ?_ _)); exact BK110.out) hb); have n6_ := Aside0.mk (blk_below (g := gb122) (o := .cells #[.slice Ao27 t114.length co27, .int .i64 t117] 32 (0, 0)) (by (with_reducible repeat (first | refine blk_drewN ?_ _ | refine blk_drew ?_ | refine blk_alloc ?_ _)); exact BK122.out) hb); have n7_ := Aside0.mk (blk_below (g := gb123) (o := .cells #[.slice Ao32 t118.length co32, .int .i64 t121] 32 (0, 0)) (by (with_reducible repeat (first | refine blk_drewN ?_ _ | refine blk_drew ?_ | refine blk_alloc ?_ _)); exact BK123.out) hb); have n8_ := Aside0.mk (below_step (by repeat (first | (with_reducible first | exact HB.out | apply below_alloc | apply pw_below_drewN | apply below_drew1 | refine below_set ?_ GE106.out | refine below_set ?_ GE110.out | refine below_set ?_ GE122.out | refine below_set ?_ GE123.out) | exact HB.out)) hb); clear HO_107000; clear HO_123000; clear HO_124000; clear BK106; clear BK110; clear BK122; clear BK123; clear HB; have HO_107000 := n0_; have HO_123000 := n1_; have HO_124000 := n2_; have HO126 := n3_; have BK106 := n4_; have BK110 := n5_; have BK122 := n6_; have BK123 := n7_; have HB := n8_; clear n0_ n1_ n2_ n3_ n4_ n5_ n6_ n7_ n8_; clear hb ho163) | ((with_reducible refine gate_dst (N := 74) rfl ?_); refine Kd.R_lit k71 _ 71 ?hg (N := 74) ?hd (xs := ([(⟨6, 0, 0⟩ : S71), (⟨5, 0, 0⟩ : S71)] : List (S71))) (inner := [.int .i64 6, .int .i64 0, .int .i64 0, .int .i64 5, .int .i64 0, .int .i64 0]) (ok := fun _ => True) (okp := fun _ => True) ?hr ?hp (fun _ hk => hk) trivial (Below.refl _ _) (Nat.le_refl _) (by simp) ?_; (case hd => rfl); (case hg => rfl); (case hr => first | (go_simp; done) | (go_simp; rfl)); (case hp => exact (Reps.c3 (show Kd.M k71 _ _ _ (⟨6, 0, 0⟩ : S71) [.int .i64 6, .int .i64 0, .int .i64 0] from (k71_mkM _ _ _ (⟨6, 0, 0⟩ : S71) )) (Reps.c3 (show Kd.M k71 _ _ _ (⟨5, 0, 0⟩ : S71) [.int .i64 5, .int .i64 0, .int .i64 0] from (k71_mkM _ _ _ (⟨5, 0, 0⟩ : S71) )) (Reps.none _ _)))); intro v128 w164 ho165 hb hg_ hnew_; clear hg_ hnew_; (first | rw [← Ny127.out] at ho165 | (simp only [Int.reduceToNat] at ho165; rw [← Ny127.out] at ho165)); have n0_ := Aside0.mk (Kd.R_elder' (by (with_reducible repeat (first | apply Kd.R_alloc | apply Kd.R_drewN | apply Kd.R_drew)); exact HO_107000.out) (Kd.R_base ho165) hb); have n1_ := Aside0.mk (Kd.R_elder' (by (with_reducible repeat (first | apply Kd.R_alloc | apply Kd.R_drewN | apply Kd.R_drew)); exact HO_123000.out) (Kd.R_base ho165) hb); have n2_ := Aside0.mk (Kd.R_elder' (by (with_reducible repeat (first | apply Kd.R_alloc | apply Kd.R_drewN | apply Kd.R_drew)); exact HO_124000.out) (Kd.R_base ho165) hb); have n3_ := Aside0.mk (Kd.R_elder' (by (with_reducible repeat (first | apply Kd.R_alloc | apply Kd.R_drewN | apply Kd.R_drew)); exact HO126.out) (Kd.R_base ho165) hb); have n4_ := Aside0.mk (Kd.R_lower (Kd.R_new' (Kd.R_new' (Kd.R_new' (Kd.R_new' ho165 (Kd.R_lt (by (with_reducible repeat (first | apply Kd.R_alloc | apply Kd.R_drewN | apply Kd.R_drew)); exact HO_107000.out))) (Kd.R_lt (by (with_reducible repeat (first | apply Kd.R_alloc | apply Kd.R_drewN | apply Kd.R_drew)); exact HO_123000.out))) (Kd.R_lt (by (with_reducible repeat (first | apply Kd.R_alloc | apply Kd.R_drewN | apply Kd.R_drew)); exact HO_124000.out))) (Kd.R_lt (by (with_reducible repeat (first | apply Kd.R_alloc | apply Kd.R_drewN | apply Kd.R_drew)); exact HO126.out))) (below_size (by repeat (first | (with_reducible first | exact HB.out | apply below_alloc | apply pw_below_drewN | apply below_drew1 | refine below_set ?_ GE106.out | refine below_set ?_ GE110.out | refine below_set ?_ GE122.out | refine below_set ?_ GE123.out) | exact HB.out)))); have n5_ := Aside0.mk (blk_below (g := gb106) (o := .cells #[.slice Ao14 t102.length co14, .int .i64 t105] 32 (0, 0)) (by (with_reducible repeat (first | refine blk_drewN ?_ _ | refine blk_drew ?_ | refine blk_alloc ?_ _)); exact BK106.out) hb); have n6_ := Aside0.mk (blk_below (g := gb110) (o := .cells #[.int .i64 t107, .int .i64 t108, .int .i64 t109] 38 (0, 0)) (by (with_reducible repeat (first | refine blk_drewN ?_ _ | refine blk_drew ?_ | refine blk_alloc ?_ _)); exact BK110.out) hb); have n7_ := Aside0.mk (blk_below (g := gb122) (o := .cells #[.slice Ao27 t114.length co27, .int .i64 t117] 32 (0, 0)) (by (with_reducible repeat (first | refine blk_drewN ?_ _ | refine blk_drew ?_ | refine blk_alloc ?_ _)); exact BK122.out) hb); have n8_ := Aside0.mk (blk_below (g := gb123) (o := .cells #[.slice Ao32 t118.length co32, .int .i64 t121] 32 (0, 0)) (by (with_reducible repeat (first | refine blk_drewN ?_ _ | refine blk_drew ?_ | refine blk_alloc ?_ _)); exact BK123.out) hb); have n9_ := Aside0.mk (below_step (by repeat (first | (with_reducible first | exact HB.out | apply below_alloc | apply pw_below_drewN | apply below_drew1 | refine below_set ?_ GE106.out | refine below_set ?_ GE110.out | refine below_set ?_ GE122.out | refine below_set ?_ GE123.out) | exact HB.out)) hb); clear HO_107000; clear HO_123000; clear HO_124000; clear HO126; clear BK106; clear BK110; clear BK122; clear BK123; clear HB; have HO_107000 := n0_; have HO_123000 := n1_; have HO_124000 := n2_; have HO126 := n3_; have HO129 := n4_; have BK106 := n5_; have BK110 := n6_; have BK122 := n7_; have BK123 := n8_; have HB := n9_; clear n0_ n1_ n2_ n3_ n4_ n5_ n6_ n7_ n8_ n9_; clear hb ho165) | ((with_reducible refine gate_dst (N := 76) rfl ?_); refine Kd.R_lit k71 _ 71 ?hg (N := 76) ?hd (xs := ([(⟨5, (-1), 0⟩ : S71)] : List (S71))) (inner := [.int .i64 5, .int .i64 (-1), .int .i64 0]) (ok := fun _ => True) (okp := fun _ => True) ?hr ?hp (fun _ hk => hk) trivial (Below.refl _ _) (Nat.le_refl _) (by simp) ?_; (case hd => rfl); (case hg => rfl); (case hr => first | (go_simp; done) | (go_simp; rfl)); (case hp => exact (Reps.c3 (show Kd.M k71 _ _ _ (⟨5, (-1), 0⟩ : S71) [.int .i64 5, .int .i64 (-1), .int .i64 0] from (k71_mkM _ _ _ (⟨5, (-1), 0⟩ : S71) )) (Reps.none _ _))); intro v131 w166 ho167 hb hg_ hnew_; clear hg_ hnew_; (first | rw [← Ny130.out] at ho167 | (simp only [Int.reduceToNat] at ho167; rw [← Ny130.out] at ho167)); have n0_ := Aside0.mk (Kd.R_elder' (by (with_reducible repeat (first | apply Kd.R_alloc | apply Kd.R_drewN | apply Kd.R_drew)); exact HO_107000.out) (Kd.R_base ho167) hb); have n1_ := Aside0.mk (Kd.R_elder' (by (with_reducible repeat (first | apply Kd.R_alloc | apply Kd.R_drewN | apply Kd.R_drew)); exact HO_123000.out) (Kd.R_base ho167) hb); have n2_ := Aside0.mk (Kd.R_elder' (by (with_reducible repeat (first | apply Kd.R_alloc | apply Kd.R_drewN | apply Kd.R_drew)); exact HO_124000.out) (Kd.R_base ho167) hb); have n3_ := Aside0.mk (Kd.R_elder' (by (with_reducible repeat (first | apply Kd.R_alloc | apply Kd.R_drewN | apply Kd.R_drew)); exact HO126.out) (Kd.R_base ho167) hb); have n4_ := Aside0.mk (Kd.R_elder' (by (with_reducible repeat (first | apply Kd.R_alloc | apply Kd.R_drewN | apply Kd.R_drew)); exact HO129.out) (Kd.R_base ho167) hb); have n5_ := Aside0.mk (Kd.R_lower (Kd.R_new' (Kd.R_new' (Kd.R_new' (Kd.R_new' (Kd.R_new' ho167 (Kd.R_lt (by (with_reducible repeat (first | apply Kd.R_alloc | apply Kd.R_drewN | apply Kd.R_drew)); exact HO_107000.out))) (Kd.R_lt (by (with_reducible repeat (first | apply Kd.R_alloc | apply Kd.R_drewN | apply Kd.R_drew)); exact HO_123000.out))) (Kd.R_lt (by (with_reducible repeat (first | apply Kd.R_alloc | apply Kd.R_drewN | apply Kd.R_drew)); exact HO_124000.out))) (Kd.R_lt (by (with_reducible repeat (first | apply Kd.R_alloc | apply Kd.R_drewN | apply Kd.R_drew)); exact HO126.out))) (Kd.R_lt (by (with_reducible repeat (first | apply Kd.R_alloc | apply Kd.R_drewN | apply Kd.R_drew)); exact HO129.out))) (below_size (by repeat (first | (with_reducible first | exact HB.out | apply below_alloc | apply pw_below_drewN | apply below_drew1 | refine below_set ?_ GE106.out | refine below_set ?_ GE110.out | refine below_set ?_ GE122.out | refine below_set ?_ GE123.out) | exact HB.out)))); have n6_ := Aside0.mk (blk_below (g := gb106) (o := .cells #[.slice Ao14 t102.length co14, .int .i64 t105] 32 (0, 0)) (by (with_reducible repeat (first | refine blk_drewN ?_ _ | refine blk_drew ?_ | refine blk_alloc ?_ _)); exact BK106.out) hb); have n7_ := Aside0.mk (blk_below (g := gb110) (o := .cells #[.int .i64 t107, .int .i64 t108, .int .i64 t109] 38 (0, 0)) (by (with_reducible repeat (first | refine blk_drewN ?_ _ | refine blk_drew ?_ | refine blk_alloc ?_ _)); exact BK110.out) hb); have n8_ := Aside0.mk (blk_below (g := gb122) (o := .cells #[.slice Ao27 t114.length co27, .int .i64 t117] 32 (0, 0)) (by (with_reducible repeat (first | refine blk_drewN ?_ _ | refine blk_drew ?_ | refine blk_alloc ?_ _)); exact BK122.out) hb); have n9_ := Aside0.mk (blk_below (g := gb123) (o := .cells #[.slice Ao32 t118.length co32, .int .i64 t121] 32 (0, 0)) (by (with_reducible repeat (first | refine blk_drewN ?_ _ | refine blk_drew ?_ | refine blk_alloc ?_ _)); exact BK123.out) hb); have n10_ := Aside0.mk (below_step (by repeat (first | (with_reducible first | exact HB.out | apply below_alloc | apply pw_below_drewN | apply below_drew1 | refine below_set ?_ GE106.out | refine below_set ?_ GE110.out | refine below_set ?_ GE122.out | refine below_set ?_ GE123.out) | exact HB.out)) hb); clear HO_107000; clear HO_123000; clear HO_124000; clear HO126; clear HO129; clear BK106; clear BK110; clear BK122; clear BK123; clear HB; have HO_107000 := n0_; have HO_123000 := n1_; have HO_124000 := n2_; have HO126 := n3_; have HO129 := n4_; have HO132 := n5_; have BK106 := n6_; have BK110 := n7_; have BK122 := n8_; have BK123 := n9_; have HB := n10_; clear n0_ n1_ n2_ n3_ n4_ n5_ n6_ n7_ n8_ n9_ n10_; clear hb ho167) | ((with_reducible refine gate_dst (N := 78) rfl ?_); refine Kd.R_lit k71 _ 71 ?hg (N := 78) ?hd (xs := ([(⟨5, 0, 1073741825⟩ : S71)] : List (S71))) (inner := [.int .i64 5, .int .i64 0, .int .i64 1073741825]) (ok := fun _ => True) (okp := fun _ => True) ?hr ?hp (fun _ hk => hk) trivial (Below.refl _ _) (Nat.le_refl _) (by simp) ?_; (case hd => rfl); (case hg => rfl); (case hr => first | (go_simp; done) | (go_simp; rfl)); (case hp => exact (Reps.c3 (show Kd.M k71 _ _ _ (⟨5, 0, 1073741825⟩ : S71) [.int .i64 5, .int .i64 0, .int .i64 1073741825] from (k71_mkM _ _ _ (⟨5, 0, 1073741825⟩ : S71) )) (Reps.none _ _))); intro v134 w168 ho169 hb hg_ hnew_; clear hg_ hnew_; (first | rw [← Ny133.out] at ho169 | (simp only [Int.reduceToNat] at ho169; rw [← Ny133.out] at ho169)); have n0_ := Aside0.mk (Kd.R_elder' (by (with_reducible repeat (first | apply Kd.R_alloc | apply Kd.R_drewN | apply Kd.R_drew)); exact HO_107000.out) (Kd.R_base ho169) hb); have n1_ := Aside0.mk (Kd.R_elder' (by (with_reducible repeat (first | apply Kd.R_alloc | apply Kd.R_drewN | apply Kd.R_drew)); exact HO_123000.out) (Kd.R_base ho169) hb); have n2_ := Aside0.mk (Kd.R_elder' (by (with_reducible repeat (first | apply Kd.R_alloc | apply Kd.R_drewN | apply Kd.R_drew)); exact HO_124000.out) (Kd.R_base ho169) hb); have n3_ := Aside0.mk (Kd.R_elder' (by (with_reducible repeat (first | apply Kd.R_alloc | apply Kd.R_drewN | apply Kd.R_drew)); exact HO126.out) (Kd.R_base ho169) hb); have n4_ := Aside0.mk (Kd.R_elder' (by (with_reducible repeat (first | apply Kd.R_alloc | apply Kd.R_drewN | apply Kd.R_drew)); exact HO129.out) (Kd.R_base ho169) hb); have n5_ := Aside0.mk (Kd.R_elder' (by (with_reducible repeat (first | apply Kd.R_alloc | apply Kd.R_drewN | apply Kd.R_drew)); exact HO132.out) (Kd.R_base ho169) hb); have n6_ := Aside0.mk (Kd.R_lower (Kd.R_new' (Kd.R_new' (Kd.R_new' (Kd.R_new' (Kd.R_new' (Kd.R_new' ho169 (Kd.R_lt (by (with_reducible repeat (first | apply Kd.R_alloc | apply Kd.R_drewN | apply Kd.R_drew)); exact HO_107000.out))) (Kd.R_lt (by (with_reducible repeat (first | apply Kd.R_alloc | apply Kd.R_drewN | apply Kd.R_drew)); exact HO_123000.out))) (Kd.R_lt (by (with_reducible repeat (first | apply Kd.R_alloc | apply Kd.R_drewN | apply Kd.R_drew)); exact HO_124000.out))) (Kd.R_lt (by (with_reducible repeat (first | apply Kd.R_alloc | apply Kd.R_drewN | apply Kd.R_drew)); exact HO126.out))) (Kd.R_lt (by (with_reducible repeat (first | apply Kd.R_alloc | apply Kd.R_drewN | apply Kd.R_drew)); exact HO129.out))) (Kd.R_lt (by (with_reducible repeat (first | apply Kd.R_alloc | apply Kd.R_drewN | apply Kd.R_drew)); exact HO132.out))) (below_size (by repeat (first | (with_reducible first | exact HB.out | apply below_alloc | apply pw_below_drewN | apply below_drew1 | refine below_set ?_ GE106.out | refine below_set ?_ GE110.out | refine below_set ?_ GE122.out | refine below_set ?_ GE123.out) | exact HB.out)))); have n7_ := Aside0.mk (blk_below (g := gb106) (o := .cells #[.slice Ao14 t102.length co14, .int .i64 t105] 32 (0, 0)) (by (with_reducible repeat (first | refine blk_drewN ?_ _ | refine blk_drew ?_ | refine blk_alloc ?_ _)); exact BK106.out) hb); have n8_ := Aside0.mk (blk_below (g := gb110) (o := .cells #[.int .i64 t107, .int .i64 t108, .int .i64 t109] 38 (0, 0)) (by (with_reducible repeat (first | refine blk_drewN ?_ _ | refine blk_drew ?_ | refine blk_alloc ?_ _)); exact BK110.out) hb); have n9_ := Aside0.mk (blk_below (g := gb122) (o := .cells #[.slice Ao27 t114.length co27, .int .i64 t117] 32 (0, 0)) (by (with_reducible repeat (first | refine blk_drewN ?_ _ | refine blk_drew ?_ | refine blk_alloc ?_ _)); exact BK122.out) hb); have n10_ := Aside0.mk (blk_below (g := gb123) (o := .cells #[.slice Ao32 t118.length co32, .int .i64 t121] 32 (0, 0)) (by (with_reducible repeat (first | refine blk_drewN ?_ _ | refine blk_drew ?_ | refine blk_alloc ?_ _)); exact BK123.out) hb); have n11_ := Aside0.mk (below_step (by repeat (first | (with_reducible first | exact HB.out | apply below_alloc | apply pw_below_drewN | apply below_drew1 | refine below_set ?_ GE106.out | refine below_set ?_ GE110.out | refine below_set ?_ GE122.out | refine below_set ?_ GE123.out) | exact HB.out)) hb); clear HO_107000; clear HO_123000; clear HO_124000; clear HO126; clear HO129; clear HO132; clear BK106; clear BK110; clear BK122; clear BK123; clear HB; have HO_107000 := n0_; have HO_123000 := n1_; have HO_124000 := n2_; have HO126 := n3_; have HO129 := n4_; have HO132 := n5_; have HO135 := n6_; have BK106 := n7_; have BK110 := n8_; have BK122 := n9_; have BK123 := n10_; have HB := n11_; clear n0_ n1_ n2_ n3_ n4_ n5_ n6_ n7_ n8_ n9_ n10_ n11_; clear hb ho169) | ((with_reducible refine gate_dst (N := 80) rfl ?_); refine Kd.R_lit k71 _ 71 ?hg (N := 80) ?hd (xs := ([(⟨0, 0, 0⟩ : S71)] : List (S71))) (inner := [.int .i64 0, .int .i64 0, .int .i64 0]) (ok := fun _ => True) (okp := fun _ => True) ?hr ?hp (fun _ hk => hk) trivial (Below.refl _ _) (Nat.le_refl _) (by simp) ?_; (case hd => rfl); (case hg => rfl); (case hr => first | (go_simp; done) | (go_simp; rfl)); (case hp => exact (Reps.c3 (show Kd.M k71 _ _ _ (⟨0, 0, 0⟩ : S71) [.int .i64 0, .int .i64 0, .int .i64 0] from (k71_mkM _ _ _ (⟨0, 0, 0⟩ : S71) )) (Reps.none _ _))); intro v137 w170 ho171 hb hg_ hnew_; clear hg_ hnew_; (first | rw [← Ny136.out] at ho171 | (simp only [Int.reduceToNat] at ho171; rw [← Ny136.out] at ho171)); have n0_ := Aside0.mk (Kd.R_elder' (by (with_reducible repeat (first | apply Kd.R_alloc | apply Kd.R_drewN | apply Kd.R_drew)); exact HO_107000.out) (Kd.R_base ho171) hb); have n1_ := Aside0.mk (Kd.R_elder' (by (with_reducible repeat (first | apply Kd.R_alloc | apply Kd.R_drewN | apply Kd.R_drew)); exact HO_123000.out) (Kd.R_base ho171) hb); have n2_ := Aside0.mk (Kd.R_elder' (by (with_reducible repeat (first | apply Kd.R_alloc | apply Kd.R_drewN | apply Kd.R_drew)); exact HO_124000.out) (Kd.R_base ho171) hb); have n3_ := Aside0.mk (Kd.R_elder' (by (with_reducible repeat (first | apply Kd.R_alloc | apply Kd.R_drewN | apply Kd.R_drew)); exact HO126.out) (Kd.R_base ho171) hb); have n4_ := Aside0.mk (Kd.R_elder' (by (with_reducible repeat (first | apply Kd.R_alloc | apply Kd.R_drewN | apply Kd.R_drew)); exact HO129.out) (Kd.R_base ho171) hb); have n5_ := Aside0.mk (Kd.R_elder' (by (with_reducible repeat (first | apply Kd.R_alloc | apply Kd.R_drewN | apply Kd.R_drew)); exact HO132.out) (Kd.R_base ho171) hb); have n6_ := Aside0.mk (Kd.R_elder' (by (with_reducible repeat (first | apply Kd.R_alloc | apply Kd.R_drewN | apply Kd.R_drew)); exact HO135.out) (Kd.R_base ho171) hb); have n7_ := Aside0.mk (Kd.R_lower (Kd.R_new' (Kd.R_new' (Kd.R_new' (Kd.R_new' (Kd.R_new' (Kd.R_new' (Kd.R_new' ho171 (Kd.R_lt (by (with_reducible repeat (first | apply Kd.R_alloc | apply Kd.R_drewN | apply Kd.R_drew)); exact HO_107000.out))) (Kd.R_lt (by (with_reducible repeat (first | apply Kd.R_alloc | apply Kd.R_drewN | apply Kd.R_drew)); exact HO_123000.out))) (Kd.R_lt (by (with_reducible repeat (first | apply Kd.R_alloc | apply Kd.R_drewN | apply Kd.R_drew)); exact HO_124000.out))) (Kd.R_lt (by (with_reducible repeat (first | apply Kd.R_alloc | apply Kd.R_drewN | apply Kd.R_drew)); exact HO126.out))) (Kd.R_lt (by (with_reducible repeat (first | apply Kd.R_alloc | apply Kd.R_drewN | apply Kd.R_drew)); exact HO129.out))) (Kd.R_lt (by (with_reducible repeat (first | apply Kd.R_alloc | apply Kd.R_drewN | apply Kd.R_drew)); exact HO132.out))) (Kd.R_lt (by (with_reducible repeat (first | apply Kd.R_alloc | apply Kd.R_drewN | apply Kd.R_drew)); exact HO135.out))) (below_size (by repeat (first | (with_reducible first | exact HB.out | apply below_alloc | apply pw_below_drewN | apply below_drew1 | refine below_set ?_ GE106.out | refine below_set ?_ GE110.out | refine below_set ?_ GE122.out | refine below_set ?_ GE123.out) | exact HB.out)))); have n8_ := Aside0.mk (blk_below (g := gb106) (o := .cells #[.slice Ao14 t102.length co14, .int .i64 t105] 32 (0, 0)) (by (with_reducible repeat (first | refine blk_drewN ?_ _ | refine blk_drew ?_ | refine blk_alloc ?_ _)); exact BK106.out) hb); have n9_ := Aside0.mk (blk_below (g := gb110) (o := .cells #[.int .i64 t107, .int .i64 t108, .int .i64 t109] 38 (0, 0)) (by (with_reducible repeat (first | refine blk_drewN ?_ _ | refine blk_drew ?_ | refine blk_alloc ?_ _)); exact BK110.out) hb); have n10_ := Aside0.mk (blk_below (g := gb122) (o := .cells #[.slice Ao27 t114.length co27, .int .i64 t117] 32 (0, 0)) (by (with_reducible repeat (first | refine blk_drewN ?_ _ | refine blk_drew ?_ | refine blk_alloc ?_ _)); exact BK122.out) hb); have n11_ := Aside0.mk (blk_below (g := gb123) (o := .cells #[.slice Ao32 t118.length co32, .int .i64 t121] 32 (0, 0)) (by (with_reducible repeat (first | refine blk_drewN ?_ _ | refine blk_drew ?_ | refine blk_alloc ?_ _)); exact BK123.out) hb); have n12_ := Aside0.mk (below_step (by repeat (first | (with_reducible first | exact HB.out | apply below_alloc | apply pw_below_drewN | apply below_drew1 | refine below_set ?_ GE106.out | refine below_set ?_ GE110.out | refine below_set ?_ GE122.out | refine below_set ?_ GE123.out) | exact HB.out)) hb); clear HO_107000; clear HO_123000; clear HO_124000; clear HO126; clear HO129; clear HO132; clear HO135; clear BK106; clear BK110; clear BK122; clear BK123; clear HB; have HO_107000 := n0_; have HO_123000 := n1_; have HO_124000 := n2_; have HO126 := n3_; have HO129 := n4_; have HO132 := n5_; have HO135 := n6_; have HO138 := n7_; have BK106 := n8_; have BK110 := n9_; have BK122 := n10_; have BK123 := n11_; have HB := n12_; clear n0_ n1_ n2_ n3_ n4_ n5_ n6_ n7_ n8_ n9_ n10_ n11_ n12_; clear hb ho171; obtain ⟨Ao172, co172, eo172⟩ := Kd.R_slice HO126.out; subst eo172; obtain ⟨Ao173, co173, eo173⟩ := Kd.R_slice HO129.out; subst eo173; obtain ⟨Ao174, co174, eo174⟩ := Kd.R_slice HO132.out; subst eo174; obtain ⟨Ao175, co175, eo175⟩ := Kd.R_slice HO135.out; subst eo175; obtain ⟨Ao176, co176, eo176⟩ := Kd.R_slice HO138.out; subst eo176) | ((with_reducible refine gate_dst (N := 81) rfl ?_); refine Kd.N_lit (Kd.slice 71 k71) _ 22 ?hg (N' := 81) ?hd (xs := ([y124, y127, y130, y133, y136] : List (List (S71)))) (inner := [.slice Ao172 y124.length co172, .slice Ao173 y127.length co173, .slice Ao174 y130.length co174, .slice Ao175 y133.length co175, .slice Ao176 y136.length co176]) (ok := (fun k_ => some k_ ≠ (.slice Ao14 t102.length co14 : Value).ownBlock ∧ some k_ ≠ (.slice Ao27 t114.length co27 : Value).ownBlock ∧ some k_ ≠ (.slice Ao32 t118.length co32 : Value).ownBlock ∧ k_ ≠ gb106 ∧ k_ ≠ gb110 ∧ k_ ≠ gb122 ∧ k_ ≠ gb123)) (okp := (fun k_ => some k_ ≠ (.slice Ao14 t102.length co14 : Value).ownBlock ∧ some k_ ≠ (.slice Ao27 t114.length co27 : Value).ownBlock ∧ some k_ ≠ (.slice Ao32 t118.length co32 : Value).ownBlock ∧ k_ ≠ gb106 ∧ k_ ≠ gb110 ∧ k_ ≠ gb122 ∧ k_ ≠ gb123)) ?hr ?hp (fun _ hk => hk) ((show ∀ k_, w170.heap.size ≤ k_ → (fun k_ => some k_ ≠ (.slice Ao14 t102.length co14 : Value).ownBlock ∧ some k_ ≠ (.slice Ao27 t114.length co27 : Value).ownBlock ∧ some k_ ≠ (.slice Ao32 t118.length co32 : Value).ownBlock ∧ k_ ≠ gb106 ∧ k_ ≠ gb110 ∧ k_ ≠ gb122 ∧ k_ ≠ gb123) k_ from fun k_ hk => ⟨Kd.fresh' (Kd.R_lt (by (with_reducible repeat (first | apply Kd.R_alloc | apply Kd.R_drewN | apply Kd.R_drew)); exact HO_107000.out)) k_ hk, Kd.fresh' (Kd.R_lt (by (with_reducible repeat (first | apply Kd.R_alloc | apply Kd.R_drewN | apply Kd.R_drew)); exact HO_123000.out)) k_ hk, Kd.fresh' (Kd.R_lt (by (with_reducible repeat (first | apply Kd.R_alloc | apply Kd.R_drewN | apply Kd.R_drew)); exact HO_124000.out)) k_ hk, Kd.freshB (g := gb106) (o := .cells #[.slice Ao14 t102.length co14, .int .i64 t105] 32 (0, 0)) (by (with_reducible repeat (first | refine blk_drewN ?_ _ | refine blk_drew ?_ | refine blk_alloc ?_ _)); exact BK106.out) k_ hk, Kd.freshB (g := gb110) (o := .cells #[.int .i64 t107, .int .i64 t108, .int .i64 t109] 38 (0, 0)) (by (with_reducible repeat (first | refine blk_drewN ?_ _ | refine blk_drew ?_ | refine blk_alloc ?_ _)); exact BK110.out) k_ hk, Kd.freshB (g := gb122) (o := .cells #[.slice Ao27 t114.length co27, .int .i64 t117] 32 (0, 0)) (by (with_reducible repeat (first | refine blk_drewN ?_ _ | refine blk_drew ?_ | refine blk_alloc ?_ _)); exact BK122.out) k_ hk, Kd.freshB (g := gb123) (o := .cells #[.slice Ao32 t118.length co32, .int .i64 t121] 32 (0, 0)) (by (with_reducible repeat (first | refine blk_drewN ?_ _ | refine blk_drew ?_ | refine blk_alloc ?_ _)); exact BK123.out) k_ hk⟩) _ (Nat.le_refl _)) (Below.refl _ _) (Nat.le_refl _) (by simp) ?_; (case hd => rfl); (case hg => rfl); (case hr => first | (go_simp; done) | (go_simp; rfl)); (case hp => exact (Reps.one (show Kd.FK (Kd.slice 71 k71) _ _ y124 [.slice Ao172 y124.length co172] from (Kd.FK_slice_mk (Kd.R_reads' (Kd.R_mono (ok' := (fun k_ => some k_ ≠ (.slice Ao14 t102.length co14 : Value).ownBlock ∧ some k_ ≠ (.slice Ao27 t114.length co27 : Value).ownBlock ∧ some k_ ≠ (.slice Ao32 t118.length co32 : Value).ownBlock ∧ k_ ≠ gb106 ∧ k_ ≠ gb110 ∧ k_ ≠ gb122 ∧ k_ ≠ gb123)) (Kd.R_types (Kd.R_types (Kd.R_types (Kd.R_types (HO126.out) BK106.out (by decide)) BK110.out (by decide)) BK122.out (by decide)) BK123.out (by decide)) (fun k_ hk => ⟨hk.1.1.1.1.1.1.1.1.1.1.2, ⟨hk.1.1.1.1.1.1.1.1.1.2, ⟨hk.1.1.1.1.1.1.1.1.2, ⟨hk.1.1.1.2, ⟨hk.1.1.2, ⟨hk.1.2, hk.2⟩⟩⟩⟩⟩⟩))).2.1 (Kd.R_F (Kd.R_mono (ok' := (fun k_ => some k_ ≠ (.slice Ao14 t102.length co14 : Value).ownBlock ∧ some k_ ≠ (.slice Ao27 t114.length co27 : Value).ownBlock ∧ some k_ ≠ (.slice Ao32 t118.length co32 : Value).ownBlock ∧ k_ ≠ gb106 ∧ k_ ≠ gb110 ∧ k_ ≠ gb122 ∧ k_ ≠ gb123)) (Kd.R_types (Kd.R_types (Kd.R_types (Kd.R_types (HO126.out) BK106.out (by decide)) BK110.out (by decide)) BK122.out (by decide)) BK123.out (by decide)) (fun k_ hk => ⟨hk.1.1.1.1.1.1.1.1.1.1.2, ⟨hk.1.1.1.1.1.1.1.1.1.2, ⟨hk.1.1.1.1.1.1.1.1.2, ⟨hk.1.1.1.2, ⟨hk.1.1.2, ⟨hk.1.2, hk.2⟩⟩⟩⟩⟩⟩))))) (Reps.one (show Kd.FK (Kd.slice 71 k71) _ _ y127 [.slice Ao173 y127.length co173] from (Kd.FK_slice_mk (Kd.R_reads' (Kd.R_mono (ok' := (fun k_ => some k_ ≠ (.slice Ao14 t102.length co14 : Value).ownBlock ∧ some k_ ≠ (.slice Ao27 t114.length co27 : Value).ownBlock ∧ some k_ ≠ (.slice Ao32 t118.length co32 : Value).ownBlock ∧ k_ ≠ gb106 ∧ k_ ≠ gb110 ∧ k_ ≠ gb122 ∧ k_ ≠ gb123)) (Kd.R_types (Kd.R_types (Kd.R_types (Kd.R_types (HO129.out) BK106.out (by decide)) BK110.out (by decide)) BK122.out (by decide)) BK123.out (by decide)) (fun k_ hk => ⟨hk.1.1.1.1.1.1.1.1.1.1.2, ⟨hk.1.1.1.1.1.1.1.1.1.2, ⟨hk.1.1.1.1.1.1.1.1.2, ⟨hk.1.1.1.2, ⟨hk.1.1.2, ⟨hk.1.2, hk.2⟩⟩⟩⟩⟩⟩))).2.1 (Kd.R_F (Kd.R_mono (ok' := (fun k_ => some k_ ≠ (.slice Ao14 t102.length co14 : Value).ownBlock ∧ some k_ ≠ (.slice Ao27 t114.length co27 : Value).ownBlock ∧ some k_ ≠ (.slice Ao32 t118.length co32 : Value).ownBlock ∧ k_ ≠ gb106 ∧ k_ ≠ gb110 ∧ k_ ≠ gb122 ∧ k_ ≠ gb123)) (Kd.R_types (Kd.R_types (Kd.R_types (Kd.R_types (HO129.out) BK106.out (by decide)) BK110.out (by decide)) BK122.out (by decide)) BK123.out (by decide)) (fun k_ hk => ⟨hk.1.1.1.1.1.1.1.1.1.1.2, ⟨hk.1.1.1.1.1.1.1.1.1.2, ⟨hk.1.1.1.1.1.1.1.1.2, ⟨hk.1.1.1.2, ⟨hk.1.1.2, ⟨hk.1.2, hk.2⟩⟩⟩⟩⟩⟩))))) (Reps.one (show Kd.FK (Kd.slice 71 k71) _ _ y130 [.slice Ao174 y130.length co174] from (Kd.FK_slice_mk (Kd.R_reads' (Kd.R_mono (ok' := (fun k_ => some k_ ≠ (.slice Ao14 t102.length co14 : Value).ownBlock ∧ some k_ ≠ (.slice Ao27 t114.length co27 : Value).ownBlock ∧ some k_ ≠ (.slice Ao32 t118.length co32 : Value).ownBlock ∧ k_ ≠ gb106 ∧ k_ ≠ gb110 ∧ k_ ≠ gb122 ∧ k_ ≠ gb123)) (Kd.R_types (Kd.R_types (Kd.R_types (Kd.R_types (HO132.out) BK106.out (by decide)) BK110.out (by decide)) BK122.out (by decide)) BK123.out (by decide)) (fun k_ hk => ⟨hk.1.1.1.1.1.1.1.1.1.1.2, ⟨hk.1.1.1.1.1.1.1.1.1.2, ⟨hk.1.1.1.1.1.1.1.1.2, ⟨hk.1.1.1.2, ⟨hk.1.1.2, ⟨hk.1.2, hk.2⟩⟩⟩⟩⟩⟩))).2.1 (Kd.R_F (Kd.R_mono (ok' := (fun k_ => some k_ ≠ (.slice Ao14 t102.length co14 : Value).ownBlock ∧ some k_ ≠ (.slice Ao27 t114.length co27 : Value).ownBlock ∧ some k_ ≠ (.slice Ao32 t118.length co32 : Value).ownBlock ∧ k_ ≠ gb106 ∧ k_ ≠ gb110 ∧ k_ ≠ gb122 ∧ k_ ≠ gb123)) (Kd.R_types (Kd.R_types (Kd.R_types (Kd.R_types (HO132.out) BK106.out (by decide)) BK110.out (by decide)) BK122.out (by decide)) BK123.out (by decide)) (fun k_ hk => ⟨hk.1.1.1.1.1.1.1.1.1.1.2, ⟨hk.1.1.1.1.1.1.1.1.1.2, ⟨hk.1.1.1.1.1.1.1.1.2, ⟨hk.1.1.1.2, ⟨hk.1.1.2, ⟨hk.1.2, hk.2⟩⟩⟩⟩⟩⟩))))) (Reps.one (show Kd.FK (Kd.slice 71 k71) _ _ y133 [.slice Ao175 y133.length co175] from (Kd.FK_slice_mk (Kd.R_reads' (Kd.R_mono (ok' := (fun k_ => some k_ ≠ (.slice Ao14 t102.length co14 : Value).ownBlock ∧ some k_ ≠ (.slice Ao27 t114.length co27 : Value).ownBlock ∧ some k_ ≠ (.slice Ao32 t118.length co32 : Value).ownBlock ∧ k_ ≠ gb106 ∧ k_ ≠ gb110 ∧ k_ ≠ gb122 ∧ k_ ≠ gb123)) (Kd.R_types (Kd.R_types (Kd.R_types (Kd.R_types (HO135.out) BK106.out (by decide)) BK110.out (by decide)) BK122.out (by decide)) BK123.out (by decide)) (fun k_ hk => ⟨hk.1.1.1.1.1.1.1.1.1.1.2, ⟨hk.1.1.1.1.1.1.1.1.1.2, ⟨hk.1.1.1.1.1.1.1.1.2, ⟨hk.1.1.1.2, ⟨hk.1.1.2, ⟨hk.1.2, hk.2⟩⟩⟩⟩⟩⟩))).2.1 (Kd.R_F (Kd.R_mono (ok' := (fun k_ => some k_ ≠ (.slice Ao14 t102.length co14 : Value).ownBlock ∧ some k_ ≠ (.slice Ao27 t114.length co27 : Value).ownBlock ∧ some k_ ≠ (.slice Ao32 t118.length co32 : Value).ownBlock ∧ k_ ≠ gb106 ∧ k_ ≠ gb110 ∧ k_ ≠ gb122 ∧ k_ ≠ gb123)) (Kd.R_types (Kd.R_types (Kd.R_types (Kd.R_types (HO135.out) BK106.out (by decide)) BK110.out (by decide)) BK122.out (by decide)) BK123.out (by decide)) (fun k_ hk => ⟨hk.1.1.1.1.1.1.1.1.1.1.2, ⟨hk.1.1.1.1.1.1.1.1.1.2, ⟨hk.1.1.1.1.1.1.1.1.2, ⟨hk.1.1.1.2, ⟨hk.1.1.2, ⟨hk.1.2, hk.2⟩⟩⟩⟩⟩⟩))))) (Reps.one (show Kd.FK (Kd.slice 71 k71) _ _ y136 [.slice Ao176 y136.length co176] from (Kd.FK_slice_mk (Kd.R_reads' (Kd.R_mono (ok' := (fun k_ => some k_ ≠ (.slice Ao14 t102.length co14 : Value).ownBlock ∧ some k_ ≠ (.slice Ao27 t114.length co27 : Value).ownBlock ∧ some k_ ≠ (.slice Ao32 t118.length co32 : Value).ownBlock ∧ k_ ≠ gb106 ∧ k_ ≠ gb110 ∧ k_ ≠ gb122 ∧ k_ ≠ gb123)) (Kd.R_types (Kd.R_types (Kd.R_types (Kd.R_types (HO138.out) BK106.out (by decide)) BK110.out (by decide)) BK122.out (by decide)) BK123.out (by decide)) (fun k_ hk => ⟨hk.1.1.1.1.1.1.1.1.1.1.2, ⟨hk.1.1.1.1.1.1.1.1.1.2, ⟨hk.1.1.1.1.1.1.1.1.2, ⟨hk.1.1.1.2, ⟨hk.1.1.2, ⟨hk.1.2, hk.2⟩⟩⟩⟩⟩⟩))).2.1 (Kd.R_F (Kd.R_mono (ok' := (fun k_ => some k_ ≠ (.slice Ao14 t102.length co14 : Value).ownBlock ∧ some k_ ≠ (.slice Ao27 t114.length co27 : Value).ownBlock ∧ some k_ ≠ (.slice Ao32 t118.length co32 : Value).ownBlock ∧ k_ ≠ gb106 ∧ k_ ≠ gb110 ∧ k_ ≠ gb122 ∧ k_ ≠ gb123)) (Kd.R_types (Kd.R_types (Kd.R_types (Kd.R_types (HO138.out) BK106.out (by decide)) BK110.out (by decide)) BK122.out (by decide)) BK123.out (by decide)) (fun k_ hk => ⟨hk.1.1.1.1.1.1.1.1.1.1.2, ⟨hk.1.1.1.1.1.1.1.1.1.2, ⟨hk.1.1.1.1.1.1.1.1.2, ⟨hk.1.1.1.2, ⟨hk.1.1.2, ⟨hk.1.2, hk.2⟩⟩⟩⟩⟩⟩))))) (Reps.none _ _))))))); intro v140 w177 ho178 hb hg_ hnew_; clear hg_ hnew_; (first | rw [← Ny139.out] at ho178 | (simp only [Int.reduceToNat] at ho178; rw [← Ny139.out] at ho178)); have n0_ := Aside0.mk (Kd.R_below (by (with_reducible repeat (first | apply Kd.R_alloc | apply Kd.R_drewN | apply Kd.R_drew)); exact HO_107000.out) hb); have n1_ := Aside0.mk (Kd.R_below (by (with_reducible repeat (first | apply Kd.R_alloc | apply Kd.R_drewN | apply Kd.R_drew)); exact HO_123000.out) hb); have n2_ := Aside0.mk (Kd.R_below (by (with_reducible repeat (first | apply Kd.R_alloc | apply Kd.R_drewN | apply Kd.R_drew)); exact HO_124000.out) hb); have n3_ := Aside0.mk (Kd.N_lower ho178 (below_size (by repeat (first | (with_reducible first | exact HB.out | apply below_alloc | apply pw_below_drewN | apply below_drew1 | refine below_set ?_ GE106.out | refine below_set ?_ GE110.out | refine below_set ?_ GE122.out | refine below_set ?_ GE123.out) | exact HB.out)))); have n4_ := Aside0.mk (blk_below (g := gb106) (o := .cells #[.slice Ao14 t102.length co14, .int .i64 t105] 32 (0, 0)) (by (with_reducible repeat (first | refine blk_drewN ?_ _ | refine blk_drew ?_ | refine blk_alloc ?_ _)); exact BK106.out) hb); have n5_ := Aside0.mk (blk_below (g := gb110) (o := .cells #[.int .i64 t107, .int .i64 t108, .int .i64 t109] 38 (0, 0)) (by (with_reducible repeat (first | refine blk_drewN ?_ _ | refine blk_drew ?_ | refine blk_alloc ?_ _)); exact BK110.out) hb); have n6_ := Aside0.mk (blk_below (g := gb122) (o := .cells #[.slice Ao27 t114.length co27, .int .i64 t117] 32 (0, 0)) (by (with_reducible repeat (first | refine blk_drewN ?_ _ | refine blk_drew ?_ | refine blk_alloc ?_ _)); exact BK122.out) hb); have n7_ := Aside0.mk (blk_below (g := gb123) (o := .cells #[.slice Ao32 t118.length co32, .int .i64 t121] 32 (0, 0)) (by (with_reducible repeat (first | refine blk_drewN ?_ _ | refine blk_drew ?_ | refine blk_alloc ?_ _)); exact BK123.out) hb); have n8_ := Aside0.mk (below_step (by repeat (first | (with_reducible first | exact HB.out | apply below_alloc | apply pw_below_drewN | apply below_drew1 | refine below_set ?_ GE106.out | refine below_set ?_ GE110.out | refine below_set ?_ GE122.out | refine below_set ?_ GE123.out) | exact HB.out)) hb); clear HO_107000; clear HO_123000; clear HO_124000; clear BK106; clear BK110; clear BK122; clear BK123; clear HB; clear HO126; clear HO129; clear HO132; clear HO135; clear HO138; have HO_107000 := n0_; have HO_123000 := n1_; have HO_124000 := n2_; have HO141 := n3_; have BK106 := n4_; have BK110 := n5_; have BK122 := n6_; have BK123 := n7_; have HB := n8_; clear n0_ n1_ n2_ n3_ n4_ n5_ n6_ n7_ n8_; clear hb ho178))
     go_loopg [14] kj9 (fun kq v14 w' => ∃ (x14_2 : Int), v14 = .int .i64 x14_2 ∧ Aside0 (parolelaw37_OddsRefuses.l0 kq true y139 x14_2 = some r) ∧ Aside0 (kq ≤ kj9) ∧ Aside0 (Kd.N (Kd.slice 71 k71) 22 w' w.heap.size (fun k_ => some k_ ≠ ((.slice Ao14 t102.length co14) : Value).ownBlock ∧ some k_ ≠ ((.slice Ao27 t114.length co27) : Value).ownBlock ∧ some k_ ≠ ((.slice Ao32 t118.length co32) : Value).ownBlock ∧ k_ ≠ gb106 ∧ k_ ≠ gb110 ∧ k_ ≠ gb122 ∧ k_ ≠ gb123) v140 y139) ∧ Aside0 (Kd.R k71 71 w' w.heap.size (fun k_ => some k_ ≠ ((.slice Ao27 t114.length co27) : Value).ownBlock ∧ some k_ ≠ ((.slice Ao32 t118.length co32) : Value).ownBlock) (.slice Ao14 t102.length co14) t102) ∧ Aside0 (Kd.R k71 71 w' w.heap.size (fun k_ => some k_ ≠ ((.slice Ao14 t102.length co14) : Value).ownBlock ∧ some k_ ≠ ((.slice Ao32 t118.length co32) : Value).ownBlock) (.slice Ao27 t114.length co27) t114) ∧ Aside0 (Kd.R k71 71 w' w.heap.size (fun k_ => some k_ ≠ ((.slice Ao14 t102.length co14) : Value).ownBlock ∧ some k_ ≠ ((.slice Ao27 t114.length co27) : Value).ownBlock) (.slice Ao32 t118.length co32) t118) ∧ Aside0 (w'.heap[gb106]? = some (.cells #[(.slice Ao14 t102.length co14), .int .i64 t105] 32 (0, 0))) ∧ Aside0 (w'.heap[gb110]? = some (.cells #[.int .i64 t107, .int .i64 t108, .int .i64 t109] 38 (0, 0))) ∧ Aside0 (w'.heap[gb122]? = some (.cells #[(.slice Ao27 t114.length co27), .int .i64 t117] 32 (0, 0))) ∧ Aside0 (w'.heap[gb123]? = some (.cells #[(.slice Ao32 t118.length co32), .int .i64 t121] 32 (0, 0))) ∧ Aside0 (Below w.heap.size w w'))
     case atStart => exact ⟨(0), (by first | rfl | (simp; done) | (simp [*]; done)), H', ⟨Nat.le_refl _⟩, ⟨by (with_reducible repeat (first | apply Kd.N_alloc | apply Kd.N_drewN | apply Kd.N_drew)); exact HO141.out⟩, ⟨by (with_reducible repeat (first | apply Kd.R_alloc | apply Kd.R_drewN | apply Kd.R_drew)); exact Kd.R_mono HO_107000.out (fun _ hk => ⟨hk.1.1.1.1.1.1, hk.1.1.1.1.1.2⟩)⟩, ⟨by (with_reducible repeat (first | apply Kd.R_alloc | apply Kd.R_drewN | apply Kd.R_drew)); exact Kd.R_mono HO_123000.out (fun _ hk => ⟨hk.1.1.1.1.1.1, hk.1.1.1.1.1.2⟩)⟩, ⟨by (with_reducible repeat (first | apply Kd.R_alloc | apply Kd.R_drewN | apply Kd.R_drew)); exact Kd.R_mono HO_124000.out (fun _ hk => ⟨hk.1.1.1.1.1.1, hk.1.1.1.1.1.2⟩)⟩, ⟨by (with_reducible repeat (first | refine blk_drewN ?_ _ | refine blk_drew ?_ | refine blk_alloc ?_ _)); exact BK106.out⟩, ⟨by (with_reducible repeat (first | refine blk_drewN ?_ _ | refine blk_drew ?_ | refine blk_alloc ?_ _)); exact BK110.out⟩, ⟨by (with_reducible repeat (first | refine blk_drewN ?_ _ | refine blk_drew ?_ | refine blk_alloc ?_ _)); exact BK122.out⟩, ⟨by (with_reducible repeat (first | refine blk_drewN ?_ _ | refine blk_drew ?_ | refine blk_alloc ?_ _)); exact BK123.out⟩, ⟨by repeat (first | (with_reducible first | exact HB.out | apply below_alloc | apply pw_below_drewN | apply below_drew1 | refine below_set ?_ GE106.out | refine below_set ?_ GE110.out | refine below_set ?_ GE122.out | refine below_set ?_ GE123.out) | exact HB.out)⟩⟩
     case round =>
      clear H'
      try clear c1
      try clear c2
      try clear p2
      try clear c3
      try clear c4
      try clear c5
      try clear c6
      try clear p6
      try clear c7
      try clear c8
      try clear c9
      try clear c10
      try clear c11
      try clear c12
      try clear c13
      try clear c14
      try clear c15
      try clear c16
      try clear c18
      try clear c20
      try clear c24
      try clear c26
      try clear c28
      try clear c29
      try clear c30
      try clear c33
      try clear c34
      try clear c36
      try clear c36b0
      try clear c37
      try clear c37b0
      try clear c37b1
      try clear c37b2
      try clear c38
      try clear c39
      try clear c40
      try clear c42
      try clear c42b0
      try clear c43
      try clear c43b0
      try clear c43b1
      try clear c43b2
      try clear c44
      try clear c45
      try clear c46
      try clear c48
      try clear c49
      try clear c51
      try clear c51b0
      try clear c51b1
      try clear c51b2
      try clear c52
      try clear c53
      try clear c54
      try clear c56
      try clear c57
      try clear c59
      try clear c61
      try clear c62
      try clear c63
      try clear p64
      try clear c65
      try clear c66
      try clear c68
      try clear c71
      try clear c71b0
      try clear c71b1
      try clear c71b2
      try clear c72
      try clear c73
      try clear c74
      try clear c76
      try clear c77
      try clear c79
      try clear c79b0
      try clear c79b1
      try clear c79b2
      try clear c80
      try clear c81
      try clear c82
      try clear c84
      try clear c85
      try clear c87
      try clear c89
      try clear c90
      try clear c91
      try clear c93
      try clear c94
      try clear c96
      try clear c99
      try clear c99b0
      try clear c99b1
      try clear c99b2
      try clear c100
      try clear c101
      try clear c102
      try clear c104
      try clear c104b0
      try clear c105
      try clear c105b0
      try clear c105b1
      try clear c105b2
      try clear c106
      try clear c107
      try clear c108
      try clear c110
      try clear c111
      try clear c113
      try clear c113b0
      try clear c113b1
      try clear c113b2
      try clear c114
      try clear c115
      try clear c116
      try clear c118
      try clear c119
      try clear c121
      try clear c123
      try clear c124
      try clear c125
      try clear c127
      try clear c128
      try clear c130
      try clear c133
      try clear c133b0
      try clear c133b1
      try clear c133b2
      try clear c134
      try clear c135
      try clear c136
      try clear c138
      try clear c139
      try clear c141
      try clear c141b0
      try clear c141b1
      try clear c141b2
      try clear c142
      try clear c143
      try clear c144
      try clear c146
      try clear c147
      try clear c149
      try clear c151
      try clear c152
      try clear c153
      try clear c155
      try clear c156
      try clear c158
      try clear c161
      try clear hcz103_0
      try clear hcz103_1
      try clear hcz109_0
      try clear hcz109_1
      try clear hcz112_0
      try clear hcz112_1
      try clear hcz112_2
      try clear hcz117_0
      try clear hcz117_1
      try clear hcz120_0
      try clear hcz120_1
      try clear hcz120_2
      try clear hcz122_0
      try clear hcz122_1
      try clear hcz126_0
      try clear hcz126_1
      try clear hcz129_0
      try clear hcz129_1
      try clear hcz129_2
      try clear hcz131_0
      try clear hcz131_1
      try clear hcz132_0
      try clear hcz132_1
      try clear hcz137_0
      try clear hcz137_1
      try clear hcz140_0
      try clear hcz140_1
      try clear hcz140_2
      try clear hcz145_0
      try clear hcz145_1
      try clear hcz148_0
      try clear hcz148_1
      try clear hcz148_2
      try clear hcz150_0
      try clear hcz150_1
      try clear hcz154_0
      try clear hcz154_1
      try clear hcz157_0
      try clear hcz157_1
      try clear hcz157_2
      try clear hcz159_0
      try clear hcz159_1
      try clear hcz15_0
      try clear hcz15_1
      try clear hcz160_0
      try clear hcz160_1
      try clear hcz19_0
      try clear hcz19_1
      try clear hcz19_2
      try clear hcz31_0
      try clear hcz31_1
      try clear hcz35_0
      try clear hcz35_1
      try clear hcz41_0
      try clear hcz41_1
      try clear hcz47_0
      try clear hcz47_1
      try clear hcz50_0
      try clear hcz50_1
      try clear hcz50_2
      try clear hcz55_0
      try clear hcz55_1
      try clear hcz58_0
      try clear hcz58_1
      try clear hcz58_2
      try clear hcz60_0
      try clear hcz60_1
      try clear hcz64_0
      try clear hcz64_1
      try clear hcz67_0
      try clear hcz67_1
      try clear hcz67_2
      try clear hcz69_0
      try clear hcz69_1
      try clear hcz70_0
      try clear hcz70_1
      try clear hcz75_0
      try clear hcz75_1
      try clear hcz78_0
      try clear hcz78_1
      try clear hcz78_2
      try clear hcz83_0
      try clear hcz83_1
      try clear hcz86_0
      try clear hcz86_1
      try clear hcz86_2
      try clear hcz88_0
      try clear hcz88_1
      try clear hcz92_0
      try clear hcz92_1
      try clear hcz95_0
      try clear hcz95_1
      try clear hcz95_2
      try clear hcz97_0
      try clear hcz97_1
      try clear hcz98_0
      try clear hcz98_1
      try clear hfz103_0
      try clear hfz103_1
      try clear hfz109_0
      try clear hfz109_1
      try clear hfz112_0
      try clear hfz112_1
      try clear hfz112_2
      try clear hfz117_0
      try clear hfz117_1
      try clear hfz120_0
      try clear hfz120_1
      try clear hfz120_2
      try clear hfz122_0
      try clear hfz122_1
      try clear hfz126_0
      try clear hfz126_1
      try clear hfz129_0
      try clear hfz129_1
      try clear hfz129_2
      try clear hfz131_0
      try clear hfz131_1
      try clear hfz132_0
      try clear hfz132_1
      try clear hfz137_0
      try clear hfz137_1
      try clear hfz140_0
      try clear hfz140_1
      try clear hfz140_2
      try clear hfz145_0
      try clear hfz145_1
      try clear hfz148_0
      try clear hfz148_1
      try clear hfz148_2
      try clear hfz150_0
      try clear hfz150_1
      try clear hfz154_0
      try clear hfz154_1
      try clear hfz157_0
      try clear hfz157_1
      try clear hfz157_2
      try clear hfz159_0
      try clear hfz159_1
      try clear hfz15_0
      try clear hfz15_1
      try clear hfz160_0
      try clear hfz160_1
      try clear hfz19_0
      try clear hfz19_1
      try clear hfz19_2
      try clear hfz31_0
      try clear hfz31_1
      try clear hfz35_0
      try clear hfz35_1
      try clear hfz41_0
      try clear hfz41_1
      try clear hfz47_0
      try clear hfz47_1
      try clear hfz50_0
      try clear hfz50_1
      try clear hfz50_2
      try clear hfz55_0
      try clear hfz55_1
      try clear hfz58_0
      try clear hfz58_1
      try clear hfz58_2
      try clear hfz60_0
      try clear hfz60_1
      try clear hfz64_0
      try clear hfz64_1
      try clear hfz67_0
      try clear hfz67_1
      try clear hfz67_2
      try clear hfz69_0
      try clear hfz69_1
      try clear hfz70_0
      try clear hfz70_1
      try clear hfz75_0
      try clear hfz75_1
      try clear hfz78_0
      try clear hfz78_1
      try clear hfz78_2
      try clear hfz83_0
      try clear hfz83_1
      try clear hfz86_0
      try clear hfz86_1
      try clear hfz86_2
      try clear hfz88_0
      try clear hfz88_1
      try clear hfz92_0
      try clear hfz92_1
      try clear hfz95_0
      try clear hfz95_1
      try clear hfz95_2
      try clear hfz97_0
      try clear hfz97_1
      try clear hfz98_0
      try clear hfz98_1
      try clear p2
      try clear p6
      try clear p64
      obtain ⟨x14_2, rfl, HA, HK2, HO_13, HO_107000, HO_123000, HO_124000, BK106, BK110, BK122, BK123, HB⟩ := hrel
      cases gk with
      | zero => exact absurd HA.out (by simp [parolelaw37_OddsRefuses.l0])
      | succ k2 =>
       have H := HA.out
       clear HA
       simp only [parolelaw37_OddsRefuses.l0] at H
       by_cases c179 : x14_2 < (y139.length : Int)
       ·rw [if_pos c179] at H
        have c179b0 : decide (x14_2 < (y139.length : Int)) = true := decide_eq_true c179
        clear c179
        by_cases c180 : 0 ≤ x14_2
        ·rw [if_pos c180] at H
         have c180b0 : decide (0 ≤ x14_2) = true := decide_eq_true c180
         clear c180
         replace H := Option.bind_eq_some_iff.mp H
         obtain ⟨t143, A1810, H⟩ := H
         replace H : (if t143 = 1 then (parolelaw37_OddsRefuses.l0 k2 true y139 (wrap64 (x14_2 + 1))) else (some false)) = some r := H
         have A181 := Aside0.mk A1810
         clear A1810
         by_cases c182 : t143 = 1
         ·rw [if_pos c182] at H
          have c182b0 : (t143 == 1) = true := beq_iff_eq.mpr c182
          have c182b1 : (t143 != 1) = false := bne_eq_false_iff_eq.mpr c182
          clear c182
          have H' := Aside0.mk H
          clear H
          obtain ⟨Ao183, co183, eo183⟩ := Kd.N_slice HO_13.out
          subst eo183
          have p142 : 0 ≤ (x14_2 : Int) := of_decide_eq_true (by first | (with_reducible assumption) | assumption)
          have q142 : x14_2 < (y139.length : Int) := of_decide_eq_true (by first | (with_reducible assumption) | assumption)
          obtain ⟨ad142, A142_0, c142_0, e142, hx142_0, hl142_0, hi142_0⟩ := at_L4 (Kd.N_reads' HO_13.out).2.2 x14_2 p142 q142
          cases e142
          obtain ⟨ce142, hce142, hMe142, hcc142⟩ := Kd.N_get HO_13.out [] x14_2 p142 (by first | exact q142 | exact of_decide_eq_true (by first | (with_reducible assumption) | assumption) | (have e_ := (Kd.N_reads' HO_13.out).1; omega))
          obtain ⟨ua142_0, uc142_0, rfl, ul142_0, ge142_0⟩ := Kd.FK_slice_open hMe142
          have hv142_0 := hcc142 0 _ rfl
          rw [Nat.add_zero, show ((Kd.slice 71 k71)).sz = 1 from rfl, Nat.mul_one] at hv142_0
          replace hv142_0 := Option.some.inj (hv142_0.symm.trans hx142_0)
          injection hv142_0 with hva_ hvn_ hvc_
          rw [hva_] at ge142_0
          rw [hvc_] at ul142_0
          have HL142_0 := Aside0.mk (show Kd.V k71 71 _ w.heap.size _ _ (rd_L4 y139 x14_2) from Kd.V_mk ul142_0 ge142_0)
          clear hva_ hvn_ hvc_ ge142_0 ul142_0
          clear hcc142 hce142
          have HR142_0 := Aside0.mk hi142_0
          have HC142_0 := Aside0.mk hl142_0
          clear hi142_0 hl142_0
          replace p142 := eq_true p142
          replace q142 := eq_true q142
          go_wp2_with (first | ((with_reducible refine gate_callee (f := 17) rfl ?_); refine goesL_ (some 92) rfl rfl Try.func17 (by kernel_rfl) rfl #[.slice A142_0 (rd_L4 y139 x14_2).length c142_0] rfl (by (try simp only [List.map_toArray, List.map_cons, List.map_nil]); first | done | rfl | (simp only [List.length_drop, List.length_take]; rfl)) ?_; (with_reducible refine (odds_Right.calls k2 _ _ (rd_L4 y139 x14_2) t143 _ ?side1 ?side2 A181.out).mono ?_); (case side1 => repeat (first | exact (by repeat (first | (with_reducible exact HR142_0.out) | (with_reducible refine Kd.C_alloc ?_ _) | (with_reducible refine Kd.C_drewN ?_ _) | (with_reducible refine Kd.C_drew ?_) | exact HR142_0.out)) | (with_reducible refine Kd.C_alloc ?_ _) | (with_reducible refine Kd.C_drewN ?_ _) | (with_reducible refine Kd.C_drew ?_))); (case side2 => exact HC142_0.out); rintro e w184 ⟨rfl, hb⟩; refine ⟨_, rfl, ?_⟩; have n0_ := Aside0.mk (Kd.N_below (by (with_reducible repeat (first | apply Kd.N_alloc | apply Kd.N_drewN | apply Kd.N_drew)); exact HO_13.out) hb); have n1_ := Aside0.mk (Kd.R_below (by (with_reducible repeat (first | apply Kd.R_alloc | apply Kd.R_drewN | apply Kd.R_drew)); exact HO_107000.out) hb); have n2_ := Aside0.mk (Kd.R_below (by (with_reducible repeat (first | apply Kd.R_alloc | apply Kd.R_drewN | apply Kd.R_drew)); exact HO_123000.out) hb); have n3_ := Aside0.mk (Kd.R_below (by (with_reducible repeat (first | apply Kd.R_alloc | apply Kd.R_drewN | apply Kd.R_drew)); exact HO_124000.out) hb); have n4_ := Aside0.mk (Kd.V_below (by (with_reducible repeat (first | apply Kd.V_alloc | apply Kd.V_drewN | apply Kd.V_drew)); exact HL142_0.out) hb); have n5_ := Aside0.mk (blk_below (g := gb106) (o := .cells #[.slice Ao14 t102.length co14, .int .i64 t105] 32 (0, 0)) (by (with_reducible repeat (first | refine blk_drewN ?_ _ | refine blk_drew ?_ | refine blk_alloc ?_ _)); exact BK106.out) hb); have n6_ := Aside0.mk (blk_below (g := gb110) (o := .cells #[.int .i64 t107, .int .i64 t108, .int .i64 t109] 38 (0, 0)) (by (with_reducible repeat (first | refine blk_drewN ?_ _ | refine blk_drew ?_ | refine blk_alloc ?_ _)); exact BK110.out) hb); have n7_ := Aside0.mk (blk_below (g := gb122) (o := .cells #[.slice Ao27 t114.length co27, .int .i64 t117] 32 (0, 0)) (by (with_reducible repeat (first | refine blk_drewN ?_ _ | refine blk_drew ?_ | refine blk_alloc ?_ _)); exact BK122.out) hb); have n8_ := Aside0.mk (blk_below (g := gb123) (o := .cells #[.slice Ao32 t118.length co32, .int .i64 t121] 32 (0, 0)) (by (with_reducible repeat (first | refine blk_drewN ?_ _ | refine blk_drew ?_ | refine blk_alloc ?_ _)); exact BK123.out) hb); have n9_ := Aside0.mk (Kd.C_below (by repeat (first | (with_reducible exact HR142_0.out) | (with_reducible refine Kd.C_alloc ?_ _) | (with_reducible refine Kd.C_drewN ?_ _) | (with_reducible refine Kd.C_drew ?_) | exact HR142_0.out)) hb); have n10_ := Aside0.mk (below_step (by repeat (first | (with_reducible first | exact HB.out | apply below_alloc | apply pw_below_drewN | apply below_drew1 | refine below_set ?_ GE106.out | refine below_set ?_ GE110.out | refine below_set ?_ GE122.out | refine below_set ?_ GE123.out) | exact HB.out)) hb); clear HO_13; clear HO_107000; clear HO_123000; clear HO_124000; clear HL142_0; clear BK106; clear BK110; clear BK122; clear BK123; clear HR142_0; clear HB; have HO_13 := n0_; have HO_107000 := n1_; have HO_123000 := n2_; have HO_124000 := n3_; have HL142_0 := n4_; have BK106 := n5_; have BK110 := n6_; have BK122 := n7_; have BK123 := n8_; have HR142_0 := n9_; have HB := n10_; clear n0_ n1_ n2_ n3_ n4_ n5_ n6_ n7_ n8_ n9_ n10_; (try clear hb); (try clear hb2); (try clear hk); (try clear hi)))
          go_roundg k2
          case measure => have := HJ9.out; have := HK2.out; omega
          case rel => exact ⟨(wrap64 (x14_2 + 1)), (by first | rfl | (simp; done) | (simp [*]; done)), H', ⟨by have := HJ9.out; have := HK2.out; omega⟩, ⟨by (with_reducible repeat (first | apply Kd.N_alloc | apply Kd.N_drewN | apply Kd.N_drew)); exact HO_13.out⟩, ⟨by (with_reducible repeat (first | apply Kd.R_alloc | apply Kd.R_drewN | apply Kd.R_drew)); exact HO_107000.out⟩, ⟨by (with_reducible repeat (first | apply Kd.R_alloc | apply Kd.R_drewN | apply Kd.R_drew)); exact HO_123000.out⟩, ⟨by (with_reducible repeat (first | apply Kd.R_alloc | apply Kd.R_drewN | apply Kd.R_drew)); exact HO_124000.out⟩, ⟨by (with_reducible repeat (first | refine blk_drewN ?_ _ | refine blk_drew ?_ | refine blk_alloc ?_ _)); exact BK106.out⟩, ⟨by (with_reducible repeat (first | refine blk_drewN ?_ _ | refine blk_drew ?_ | refine blk_alloc ?_ _)); exact BK110.out⟩, ⟨by (with_reducible repeat (first | refine blk_drewN ?_ _ | refine blk_drew ?_ | refine blk_alloc ?_ _)); exact BK122.out⟩, ⟨by (with_reducible repeat (first | refine blk_drewN ?_ _ | refine blk_drew ?_ | refine blk_alloc ?_ _)); exact BK123.out⟩, ⟨by repeat (first | (with_reducible first | exact HB.out | apply below_alloc | apply pw_below_drewN | apply below_drew1 | refine below_set ?_ GE106.out | refine below_set ?_ GE110.out | refine below_set ?_ GE122.out | refine below_set ?_ GE123.out) | exact HB.out)⟩⟩
         ·rw [if_neg c182] at H
          have c182b0 : (t143 == 1) = false := beq_eq_false_iff_ne.mpr c182
          have c182b1 : (t143 != 1) = true := bne_iff_ne.mpr c182
          obtain rfl := Option.some.inj H
          obtain ⟨Ao185, co185, eo185⟩ := Kd.N_slice HO_13.out
          subst eo185
          have p142 : 0 ≤ (x14_2 : Int) := of_decide_eq_true (by first | (with_reducible assumption) | assumption)
          have q142 : x14_2 < (y139.length : Int) := of_decide_eq_true (by first | (with_reducible assumption) | assumption)
          obtain ⟨ad142, A142_0, c142_0, e142, hx142_0, hl142_0, hi142_0⟩ := at_L4 (Kd.N_reads' HO_13.out).2.2 x14_2 p142 q142
          cases e142
          obtain ⟨ce142, hce142, hMe142, hcc142⟩ := Kd.N_get HO_13.out [] x14_2 p142 (by first | exact q142 | exact of_decide_eq_true (by first | (with_reducible assumption) | assumption) | (have e_ := (Kd.N_reads' HO_13.out).1; omega))
          obtain ⟨ua142_0, uc142_0, rfl, ul142_0, ge142_0⟩ := Kd.FK_slice_open hMe142
          have hv142_0 := hcc142 0 _ rfl
          rw [Nat.add_zero, show ((Kd.slice 71 k71)).sz = 1 from rfl, Nat.mul_one] at hv142_0
          replace hv142_0 := Option.some.inj (hv142_0.symm.trans hx142_0)
          injection hv142_0 with hva_ hvn_ hvc_
          rw [hva_] at ge142_0
          rw [hvc_] at ul142_0
          have HL142_0 := Aside0.mk (show Kd.V k71 71 _ w.heap.size _ _ (rd_L4 y139 x14_2) from Kd.V_mk ul142_0 ge142_0)
          clear hva_ hvn_ hvc_ ge142_0 ul142_0
          clear hcc142 hce142
          have HR142_0 := Aside0.mk hi142_0
          have HC142_0 := Aside0.mk hl142_0
          clear hi142_0 hl142_0
          replace p142 := eq_true p142
          replace q142 := eq_true q142
          go_wp2_with (first | ((with_reducible refine gate_callee (f := 17) rfl ?_); refine goesL_ (some 92) rfl rfl Try.func17 (by kernel_rfl) rfl #[.slice A142_0 (rd_L4 y139 x14_2).length c142_0] rfl (by (try simp only [List.map_toArray, List.map_cons, List.map_nil]); first | done | rfl | (simp only [List.length_drop, List.length_take]; rfl)) ?_; (with_reducible refine (odds_Right.calls k2 _ _ (rd_L4 y139 x14_2) t143 _ ?side1 ?side2 A181.out).mono ?_); (case side1 => repeat (first | exact (by repeat (first | (with_reducible exact HR142_0.out) | (with_reducible refine Kd.C_alloc ?_ _) | (with_reducible refine Kd.C_drewN ?_ _) | (with_reducible refine Kd.C_drew ?_) | exact HR142_0.out)) | (with_reducible refine Kd.C_alloc ?_ _) | (with_reducible refine Kd.C_drewN ?_ _) | (with_reducible refine Kd.C_drew ?_))); (case side2 => exact HC142_0.out); rintro e w186 ⟨rfl, hb⟩; refine ⟨_, rfl, ?_⟩; have n0_ := Aside0.mk (Kd.N_below (by (with_reducible repeat (first | apply Kd.N_alloc | apply Kd.N_drewN | apply Kd.N_drew)); exact HO_13.out) hb); have n1_ := Aside0.mk (Kd.R_below (by (with_reducible repeat (first | apply Kd.R_alloc | apply Kd.R_drewN | apply Kd.R_drew)); exact HO_107000.out) hb); have n2_ := Aside0.mk (Kd.R_below (by (with_reducible repeat (first | apply Kd.R_alloc | apply Kd.R_drewN | apply Kd.R_drew)); exact HO_123000.out) hb); have n3_ := Aside0.mk (Kd.R_below (by (with_reducible repeat (first | apply Kd.R_alloc | apply Kd.R_drewN | apply Kd.R_drew)); exact HO_124000.out) hb); have n4_ := Aside0.mk (Kd.V_below (by (with_reducible repeat (first | apply Kd.V_alloc | apply Kd.V_drewN | apply Kd.V_drew)); exact HL142_0.out) hb); have n5_ := Aside0.mk (blk_below (g := gb106) (o := .cells #[.slice Ao14 t102.length co14, .int .i64 t105] 32 (0, 0)) (by (with_reducible repeat (first | refine blk_drewN ?_ _ | refine blk_drew ?_ | refine blk_alloc ?_ _)); exact BK106.out) hb); have n6_ := Aside0.mk (blk_below (g := gb110) (o := .cells #[.int .i64 t107, .int .i64 t108, .int .i64 t109] 38 (0, 0)) (by (with_reducible repeat (first | refine blk_drewN ?_ _ | refine blk_drew ?_ | refine blk_alloc ?_ _)); exact BK110.out) hb); have n7_ := Aside0.mk (blk_below (g := gb122) (o := .cells #[.slice Ao27 t114.length co27, .int .i64 t117] 32 (0, 0)) (by (with_reducible repeat (first | refine blk_drewN ?_ _ | refine blk_drew ?_ | refine blk_alloc ?_ _)); exact BK122.out) hb); have n8_ := Aside0.mk (blk_below (g := gb123) (o := .cells #[.slice Ao32 t118.length co32, .int .i64 t121] 32 (0, 0)) (by (with_reducible repeat (first | refine blk_drewN ?_ _ | refine blk_drew ?_ | refine blk_alloc ?_ _)); exact BK123.out) hb); have n9_ := Aside0.mk (Kd.C_below (by repeat (first | (with_reducible exact HR142_0.out) | (with_reducible refine Kd.C_alloc ?_ _) | (with_reducible refine Kd.C_drewN ?_ _) | (with_reducible refine Kd.C_drew ?_) | exact HR142_0.out)) hb); have n10_ := Aside0.mk (below_step (by repeat (first | (with_reducible first | exact HB.out | apply below_alloc | apply pw_below_drewN | apply below_drew1 | refine below_set ?_ GE106.out | refine below_set ?_ GE110.out | refine below_set ?_ GE122.out | refine below_set ?_ GE123.out) | exact HB.out)) hb); clear HO_13; clear HO_107000; clear HO_123000; clear HO_124000; clear HL142_0; clear BK106; clear BK110; clear BK122; clear BK123; clear HR142_0; clear HB; have HO_13 := n0_; have HO_107000 := n1_; have HO_123000 := n2_; have HO_124000 := n3_; have HL142_0 := n4_; have BK106 := n5_; have BK110 := n6_; have BK122 := n7_; have BK123 := n8_; have HR142_0 := n9_; have HB := n10_; clear n0_ n1_ n2_ n3_ n4_ n5_ n6_ n7_ n8_ n9_ n10_; (try clear hb); (try clear hb2); (try clear hk); (try clear hi)))
          go_ret
          exact ⟨by first | rfl | (simp [errW_none, errW_some] <;> rfl) | (simp [*, errW_none, errW_some] <;> rfl), by repeat (first | (with_reducible first | exact HB.out | apply below_alloc | apply pw_below_drewN | apply below_drew1 | refine below_set ?_ GE106.out | refine below_set ?_ GE110.out | refine below_set ?_ GE122.out | refine below_set ?_ GE123.out) | exact HB.out)⟩
        ·rw [if_neg c180] at H
         exact absurd H (by simp)
       ·rw [if_neg c179] at H
        have c179b0 : decide (x14_2 < (y139.length : Int)) = false := decide_eq_false c179
        clear c179
        obtain rfl := Option.some.inj H
        obtain ⟨Ao187, co187, eo187⟩ := Kd.N_slice HO_13.out
        subst eo187
        go_wp2
        go_ret
        exact ⟨by first | rfl | (simp [errW_none, errW_some] <;> rfl) | (simp [*, errW_none, errW_some] <;> rfl), by repeat (first | (with_reducible first | exact HB.out | apply below_alloc | apply pw_below_drewN | apply below_drew1 | refine below_set ?_ GE106.out | refine below_set ?_ GE110.out | refine below_set ?_ GE122.out | refine below_set ?_ GE123.out) | exact HB.out)⟩
 ·replace c5 := Bool.eq_false_iff.mpr c5
  subst c5
  have H1 : (some false) = some r := by rw [if_neg (show ¬ (false = true) by decide)] at H; exact H
  clear H
  have H := H1
  clear H1
  obtain rfl := Option.some.inj H
  go_enter Try.func6, Try.ntmps6
  go_wp2_with (first | ((with_reducible refine gate_callee (f := 15) rfl ?_); refine goesL_ (some 15) rfl rfl Try.func15 (by kernel_rfl) rfl #[] rfl (by (try simp only [List.map_toArray, List.map_cons, List.map_nil]); first | done | rfl | (simp only [List.length_drop, List.length_take]; rfl)) ?_; (with_reducible refine (parolelaw37_examples.calls k  false _ A4.out).mono ?_); rintro e w188 ⟨rfl, hb⟩; refine ⟨_, rfl, ?_⟩; have n0_ := Aside0.mk (below_step (by repeat (first | (with_reducible first | exact HB.out | apply below_alloc | apply pw_below_drewN | apply below_drew1) | exact HB.out)) hb); clear HB; have HB := n0_; clear n0_; (try clear hb); (try clear hb2); (try clear hk); (try clear hi)))
  go_ret
  exact ⟨by first | rfl | (simp [errW_none, errW_some] <;> rfl) | (simp [*, errW_none, errW_some] <;> rfl), by repeat (first | (with_reducible first | exact HB.out | apply below_alloc | apply pw_below_drewN | apply below_drew1) | exact HB.out)⟩
/-- THE ONE PURE STATEMENT of parolelaw37_OddsRefuses: yours. -/
def parolelaw37_OddsRefuses.Pure : Prop := ∀ (a0 : Int) (a1 : Int) (a2 : Int), (Lit.int .i64 a0).wf = true → (Lit.int .i64 a1).wf = true → (Lit.int .u8 a2).wf = true → ∃ k, parolelaw37_OddsRefuses.f k a0 a1 a2 = some true
theorem parolelaw37_OddsRefuses.walk (P : parolelaw37_OddsRefuses.Pure) (a0 : Int) (a1 : Int) (a2 : Int) (w : World) (w0 : (Lit.int .i64 a0).wf = true) (w1 : (Lit.int .i64 a1).wf = true) (w2 : (Lit.int .u8 a2).wf = true) :
  Calls Try.prog 6 #[.int .i64 a0, .int .i64 a1, .int .u8 a2] w fun e w' => e = .returned (.bool true) ∧ Below w.heap.size w w' := by
 obtain ⟨k, h⟩ := P a0 a1 a2 w0 w1 w2
 refine (parolelaw37_OddsRefuses.calls k a0 a1 a2 true w h).mono ?_
 rintro e w' ⟨rfl, hd⟩
 exact ⟨rfl, hd⟩
end Go.Proofs.Ytohnkcmbogcfhaa.P

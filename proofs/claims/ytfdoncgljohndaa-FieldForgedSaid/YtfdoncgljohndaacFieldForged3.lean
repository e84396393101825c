/- A part of the claim FieldForged: lemmas, printed functions with their contracts, plain laws. -/
import Derived.Test.YtfdoncgljohndaacFieldForged2
import Derived.LoopTactic
import Derived.RegionTactic
import Derived.ChangeAlike
import Derived.Outline
import Derived.StillTailTactics
set_option linter.unusedVariables false
set_option linter.unusedSimpArgs false
namespace Go.Proofs.Ytfdoncgljohndaa.P
open Go.RowKit Go.Fld Go.Maps Go.Proofs.YtfdoncgljohndaaW.PrintWords Go.Proofs.YtfdoncgljohndaaW.PrintLast Go.Proofs.YtfdoncgljohndaaW.PrintMore
variable {w wr : World} {D : DataW Nat} {B S : Int → Nat} {K : List Int} {L : List S28} {n : Nat}
theorem lit_ne {x y : Int} (h : y ≠ x) : Lit.int .i64 y ≠ Lit.int .i64 x := fun e => h (by injection e)
theorem ofM_nil {x : Int} (hx : ∀ c ∈ L, c.f0 ≠ x) : ofM L x = [] := by
 unfold ofM
 rw [List.filter_eq_nil_iff]
 intro c hc
 have := hx c hc
 simpa using this
/-- A new machine: its set, its struct, its entry. -/
theorem GI.add (h : GI w wr D B S K L n) {x : Int} (hx : x ∉ K) {w3 : World}
  (hm : w3.ownsMap Try.prog 3 ptrE (w.heap.size + 1) (n + 1) (D.put (.int .i64 x) (.lit (.int .i64 ((wr.heap.size + 1 : Nat) : Int)))))
  (hg : ((wr.alloc (.map #[] 0)).alloc (mac91 0 0 0 0 wr.heap.size)).grownBy w3 (some (w.heap.size + 1))) :
  GI w w3 (D.put (.int .i64 x) (.lit (.int .i64 ((wr.heap.size + 1 : Nat) : Int)))) (fun y => if y = x then wr.heap.size + 1 else B y) (fun y => if y = x then wr.heap.size else S y) (K ++ [x]) L (n + 1) := by
 have hs := h.size_le
 have s1 : (wr.alloc (.map #[] 0)).heap.size = wr.heap.size + 1 := World.size_alloc _ _
 have s2 : ((wr.alloc (.map #[] 0)).alloc (mac91 0 0 0 0 wr.heap.size)).heap.size = wr.heap.size + 1 + 1 := by rw [World.size_alloc, s1]
 have hg0 : wr.grownBy ((wr.alloc (.map #[] 0)).alloc (mac91 0 0 0 0 wr.heap.size)) none := (World.grownBy_alloc _ _ _).trans (World.grownBy_alloc _ _ _)
 have h2 := h.kept hg0
 have hk : ∀ i, i < wr.heap.size + 1 + 1 → i ≠ w.heap.size + 1 → w3.heap[i]? = ((wr.alloc (.map #[] 0)).alloc (mac91 0 0 0 0 wr.heap.size)).heap[i]? := fun i hi hne => hg.block i (by omega) (by simpa using hne)
 have hmade := World.ownsMap_made (H := Nat) wr Try.prog 3 (plainElem Try.prog 4)
 have hnil : ∀ c ∈ L, c.f0 ≠ x := fun c hc e => hx (e ▸ h.sub c hc)
 have e0 := ofM_nil hnil
 have hlt : ∀ y ∈ K, B y < wr.heap.size := fun y hy => h.ltB hy
 have hltS : ∀ y ∈ K, S y < wr.heap.size := fun y hy => h.ltS hy
 have mem : ∀ y, y ∈ K ++ [x] → y = x ∨ (y ∈ K ∧ y ≠ x) := fun y hy => by
  by_cases e : y = x
  ·exact .inl e
  ·refine .inr ⟨?_, e⟩
   simpa [e] using hy
 have hh : Maps.has D (.int .i64 x) = false := by rw [h.has]; simpa using hx
 refine ⟨h2.below.grown hg (by omega) (fun k hk => by cases hk; omega), (hk _ (by omega) (by omega)).trans h2.box, hm, ?_, ?_, ?_, ?_, ?_, ?_, ?_, ?_, ?_, ?_⟩
 ·intro y
  by_cases e : y = x
  ·subst e
   rw [Maps.has_put_same h.map.isMap (keyLit _)]
   simp
  ·rw [Maps.has_put_other (lit_ne e), h.has]
   simp [e]
 ·intro y hy z
  rcases mem y hy with rfl | ⟨hy, e⟩
  ·rw [Maps.atKey_put_same h.map.isMap (keyLit _)]
   simp
  ·rw [Maps.atKey_put_other (lit_ne e), h.at_ y hy]
   simp [e]
 ·rw [Maps.size_put (h.map.tidy (int_keyed Try.underlying3)), hh, h.size]
  simp
 ·intro c hc
  exact List.mem_append_left _ (h.sub c hc)
 ·intro y hy
  rcases mem y hy with rfl | ⟨hy, e⟩
  ·rw [hk _ (by simp) (by simp; omega)]
   simp only [if_true]
   unfold seenM lookM brokM lastM
   rw [e0]
   have := blk_new (wr.alloc (.map #[] 0)) (mac91 0 0 0 0 wr.heap.size)
   rw [s1] at this
   exact this
  ·simp only [if_neg e]
   have := hlt y hy
   have := h.newB y hy
   rw [hk _ (by omega) (by omega)]
   exact h2.mac y hy
 ·intro y hy
  rcases mem y hy with rfl | ⟨hy, e⟩
  ·simp only [if_true]
   unfold seqsM
   rw [e0]
   exact (((hmade.alloc _).kept hg (by simp; omega)).mono (Nat.zero_le _))
  ·simp only [if_neg e]
   have := h.newS y hy
   exact ((h2.set_ y hy).kept hg (by simp; omega)).mono (Nat.le_succ _)
 ·intro y hy
  rcases mem y hy with rfl | ⟨hy, e⟩
  ·simp; omega
  ·simp only [if_neg e]; exact h.newB y hy
 ·intro y hy
  rcases mem y hy with rfl | ⟨hy, e⟩
  ·simp; omega
  ·simp only [if_neg e]; exact h.newS y hy
 ·intro y hy z hz
  rcases mem y hy with rfl | ⟨hy1, e⟩ <;> rcases mem z hz with rfl | ⟨hz1, e'⟩
  ·intro _; rfl
  ·have := hlt z hz1; simp only [if_true, if_neg e']; omega
  ·have := hlt y hy1; simp only [if_true, if_neg e]; omega
  ·simp only [if_neg e, if_neg e']; exact h.injB y hy1 z hz1
 ·intro y hy z hz
  rcases mem y hy with rfl | ⟨hy1, e⟩ <;> rcases mem z hz with rfl | ⟨hz1, e'⟩
  ·intro _; rfl
  ·have := hltS z hz1; simp only [if_true, if_neg e']; omega
  ·have := hltS y hy1; simp only [if_true, if_neg e]; omega
  ·simp only [if_neg e, if_neg e']; exact h.injS y hy1 z hz1
/-- A report is taken in: its number is put into the set; the struct's numbers grow. -/
theorem GI.upd (h : GI w wr D B S K L n) (c : S28) (hx : c.f0 ∈ K) {w3 w4 : World}
  (hm : w3.ownsMap Try.prog 3 (plainElem Try.prog 4) (S c.f0) (n + 1) ((setE (seqsM L c.f0)).put (.int .i64 c.f1) (.lit (.bool true))))
  (hg : wr.grownBy w3 (some (S c.f0))) (hg4 : w3.grownBy w4 (some (B c.f0)))
  (h4 : w4.heap[B c.f0]? = some (mac91 (max (seenM L c.f0) c.f3) (max (lookM L c.f0) c.f4) (max (brokM L c.f0) c.f5) (max (lastM L c.f0) c.f1) (S c.f0))) :
  GI w w4 D B S K (L ++ [c]) (n + 1) := by
 have hs := h.size_le
 have nS := h.newS _ hx
 have nB := h.newB _ hx
 have hk : ∀ i, i < wr.heap.size → i ≠ S c.f0 → i ≠ B c.f0 → w4.heap[i]? = wr.heap[i]? := fun i hi h1 h2 =>
  (hg4.block i (by have := hg.size; omega) (by simpa using h2)).trans (hg.block i hi (by simpa using h1))
 refine ⟨(h.below.grown hg (by omega) (fun k hk => by cases hk; omega)).grown hg4 (by have := hg.size; omega) (fun k hk => by cases hk; omega), (hk _ (by omega) (by omega) (by omega)).trans h.box,
  ((h.map.kept hg (by simp; omega)).kept hg4 (by simp; omega)).mono (Nat.le_succ _), h.has, h.at_, h.size, ?_, ?_, ?_, h.newB, h.newS, h.injB, h.injS⟩
 ·intro d hd
  rcases List.mem_append.1 hd with hd | hd
  ·exact h.sub d hd
  ·rw [List.mem_singleton.1 hd]; exact hx
 ·intro y hy
  rw [seenM_snoc, lookM_snoc, brokM_snoc, lastM_snoc]
  by_cases e : c.f0 = y
  ·subst e
   simp only [if_true]
   exact h4
  ·simp only [if_neg e]
   rw [hk _ (h.ltB hy) (h.ne hy hx) (fun e' => e (h.injB y hy _ hx e').symm)]
   exact h.mac y hy
 ·intro y hy
  rw [seqsM_snoc]
  by_cases e : c.f0 = y
  ·subst e
   simp only [if_true]
   have : setE (seqsM L c.f0 ++ [c.f1]) = (setE (seqsM L c.f0)).put (.int .i64 c.f1) (.lit (.bool true)) := by
    unfold setE
    rw [List.map_append]
    exact Maps.setOf_snoc _ _ _
   rw [this]
   exact hm.kept hg4 (fun e' => h.ne hx hx (by injection e' with e'; exact e'.symm))
  ·simp only [if_neg e]
   exact (((h.set_ y hy).kept hg (fun e' => e (h.injS y hy _ hx (by injection e')).symm)).kept hg4 (fun e' => h.ne hx hy (by injection e' with e'; exact e'.symm))).mono (Nat.le_succ _)
/-- The set's size. -/
theorem size_setE (l : List Int) : Maps.size (setE l) = (nub l).length := by
 unfold setE
 rw [Maps.size_setOf _ _ (fun x hx => by obtain ⟨y, _, rfl⟩ := List.mem_map.1 hx; exact keyLit y), addKeys_nub, List.length_map]
/-- What the look-up in the outer map gives. -/
theorem lookup_old {ops : Array Oper} {rest : List Oper} {o : Oper} {a : Act} {Q : Exit → Act → World → Prop}
  (h : GI w wr D B S K L n) (hg : o.guard = none) (m x : Operand) (hop : o.op = Op.lookup 86 m x true) (hm : a.eval m = .map (some (w.heap.size + 1))) (k : Int) (hk : (Lit.int .i64 k).wf = true) (hx : a.eval x = .int .i64 k) (hmem : k ∈ K)
  (hK : wpList Try.prog ops Q rest (a.put o.dst (.tuple #[.pointer (some ⟨B k, 0, none⟩), .bool true])) wr) : wpList Try.prog ops Q (o :: rest) a wr := by
 refine wpList_lookup_own_ok wr hg m x 86 hop 3 87 (int_keyed Try.underlying3) Try.underlying86 ptrE (z := .pointer none) (by kernel_rfl) (.lit (.bool false)) [] ptrE_nil (w.heap.size + 1) n D hm h.map (.int .i64 k) (.int .i64 k) hx (keyOf_int_mk Try.underlying3 hk) ?_
 intro v ps hv
 rw [h.at_ k hmem] at hv
 rw [ptrE_inv hv, h.has, decide_eq_true hmem]
 exact hK
theorem lookup_new {ops : Array Oper} {rest : List Oper} {o : Oper} {a : Act} {Q : Exit → Act → World → Prop}
  (h : GI w wr D B S K L n) (hg : o.guard = none) (m x : Operand) (hop : o.op = Op.lookup 86 m x true) (hm : a.eval m = .map (some (w.heap.size + 1))) (k : Int) (hk : (Lit.int .i64 k).wf = true) (hx : a.eval x = .int .i64 k) (hmem : k ∉ K)
  (hK : wpList Try.prog ops Q rest (a.put o.dst (.tuple #[.pointer none, .bool false])) wr) : wpList Try.prog ops Q (o :: rest) a wr := by
 have hh : Maps.has D (.int .i64 k) = false := by rw [h.has]; simpa using hmem
 refine wpList_lookup_own_ok wr hg m x 86 hop 3 87 (int_keyed Try.underlying3) Try.underlying86 ptrE (z := .pointer none) (by kernel_rfl) (.lit (.bool false)) [] ptrE_nil (w.heap.size + 1) n D hm h.map (.int .i64 k) (.int .i64 k) hx (keyOf_int_mk Try.underlying3 hk) ?_
 intro v ps hv
 rw [Maps.atKey_of_not_has hh] at hv
 rw [hh]
 rcases ptrE_shape hv with rfl | ⟨b, rfl, e⟩
 ·exact hK
 ·cases e
/-- The new machine's entry is stored. -/
theorem store_new {ops : Array Oper} {rest : List Oper} {o : Oper} {a : Act} {Q : Exit → Act → World → Prop}
  (h : GI w wr D B S K L n) (hn : n < 100000) (hg : o.guard = none) (m x v : Operand) (hop : o.op = Op.mapUpdate 86 m x v) (hm : a.eval m = .map (some (w.heap.size + 1))) (k : Int) (hk : (Lit.int .i64 k).wf = true) (hx : a.eval x = .int .i64 k)
  (hv : a.eval v = .pointer (some ⟨wr.heap.size + 1, 0, none⟩)) (hmem : k ∉ K)
  (hK : ∀ w3 D' B' S', GI w w3 D' B' S' (K ++ [k]) L (n + 1) → B' k = wr.heap.size + 1 → ((wr.alloc (.map #[] 0)).alloc (mac91 0 0 0 0 wr.heap.size)).grownBy w3 (some (w.heap.size + 1)) → wpList Try.prog ops Q rest (a.put o.dst undef) w3) :
  wpList Try.prog ops Q (o :: rest) a ((wr.alloc (.map #[] 0)).alloc (mac91 0 0 0 0 wr.heap.size)) := by
 have hg0 : wr.grownBy ((wr.alloc (.map #[] 0)).alloc (mac91 0 0 0 0 wr.heap.size)) none := (World.grownBy_alloc _ _ _).trans (World.grownBy_alloc _ _ _)
 refine wpList_mapUpdate_own _ hg m x v 86 hop 3 87 (int_keyed Try.underlying3) Try.underlying86 ptrE (w.heap.size + 1) n D hm (h.kept hg0).map (by unfold maxLen; omega) (.int .i64 k) _ (.int .i64 k) hx hv (keyOf_int_mk Try.underlying3 hk) _ _ (ptrE_mk _) ?_
 intro w3 hm3 hg3
 exact hK w3 _ _ _ (h.add hmem hm3 hg3) (by simp) hg3
/-- A report's number is put into its machine's set. -/
theorem store_seq {ops : Array Oper} {rest : List Oper} {o : Oper} {a : Act} {Q : Exit → Act → World → Prop}
  (h : GI w wr D B S K L n) (hn : n < 100000) (hg : o.guard = none) (m x v : Operand) (hop : o.op = Op.mapUpdate 89 m x v) (k : Int) (hmem : k ∈ K) (hm : a.eval m = .map (some (S k))) (q : Int) (hq : (Lit.int .i64 q).wf = true) (hx : a.eval x = .int .i64 q) (hv : a.eval v = .bool true)
  (hK : ∀ w3, w3.ownsMap Try.prog 3 (plainElem Try.prog 4) (S k) (n + 1) ((setE (seqsM L k)).put (.int .i64 q) (.lit (.bool true))) → wr.grownBy w3 (some (S k)) → wpList Try.prog ops Q rest (a.put o.dst undef) w3) :
  wpList Try.prog ops Q (o :: rest) a wr :=
 wpList_mapUpdate_own _ hg m x v 89 hop 3 4 (int_keyed Try.underlying3) Try.underlying89 (plainElem Try.prog 4) (S k) n _ hm (h.set_ k hmem) (by unfold maxLen; omega) (.int .i64 q) _ (.int .i64 q) hx hv (keyOf_int_mk Try.underlying3 hq) _ _ (plainElem_bool Try.underlying4 true) hK
theorem GI.drew (h : GI w wr D B S K L n) : GI w wr.drew D B S K L n := h.kept ⟨rfl, rfl, rfl, Nat.le_refl _, fun _ _ _ => rfl⟩
end Go.Proofs.Ytfdoncgljohndaa.P
namespace Go.Proofs.Ytfdoncgljohndaa.P
open Go.RowKit Go.Fld Go.Maps Go.Proofs.YtfdoncgljohndaaW.PrintWords Go.Proofs.YtfdoncgljohndaaW.PrintLast Go.Proofs.YtfdoncgljohndaaW.PrintMore
attribute [local go_sem] max2_int min2_int max_two min_two
def pairs95 (b : Nat) (c0 c1 c2 c3 : Int) : Obj := .cells #[.pointer (some ⟨b, 0, none⟩), .int .i64 c0, .pointer (some ⟨b, 1, none⟩), .int .i64 c1, .pointer (some ⟨b, 2, none⟩), .int .i64 c2, .pointer (some ⟨b, 3, none⟩), .int .i64 c3] 95 (0, 0)
def stepG (b : Nat) (a0 a1 a2 a3 c0 c1 c2 c3 : Int) (s : Nat) (i : Nat) : Obj := mac91 (if 0 < i then max a0 c0 else a0) (if 1 < i then max a1 c1 else a1) (if 2 < i then max a2 c2 else a2) (if 3 < i then max a3 c3 else a3) s
theorem mac_set0 {W : World} {b s : Nat} {a0 a1 a2 a3 : Int} (h : W.heap[b]? = some (mac91 a0 a1 a2 a3 s)) (x : Int) : (W.setCell ⟨b, 0, none⟩ (.int .i64 x)).heap[b]? = some (mac91 x a1 a2 a3 s) := blk_put h 0 _ rfl
theorem mac_set1 {W : World} {b s : Nat} {a0 a1 a2 a3 : Int} (h : W.heap[b]? = some (mac91 a0 a1 a2 a3 s)) (x : Int) : (W.setCell ⟨b, 1, none⟩ (.int .i64 x)).heap[b]? = some (mac91 a0 x a2 a3 s) := blk_put h 1 _ rfl
theorem mac_set2 {W : World} {b s : Nat} {a0 a1 a2 a3 : Int} (h : W.heap[b]? = some (mac91 a0 a1 a2 a3 s)) (x : Int) : (W.setCell ⟨b, 2, none⟩ (.int .i64 x)).heap[b]? = some (mac91 a0 a1 x a3 s) := blk_put h 2 _ rfl
theorem mac_set3 {W : World} {b s : Nat} {a0 a1 a2 a3 : Int} (h : W.heap[b]? = some (mac91 a0 a1 a2 a3 s)) (x : Int) : (W.setCell ⟨b, 3, none⟩ (.int .i64 x)).heap[b]? = some (mac91 a0 a1 a2 x s) := blk_put h 3 _ rfl
theorem grown_set {W W' : World} {b : Nat} (h : W.grownBy W' (some b)) (j : Nat) (x : Value) : W.grownBy (W'.setCell ⟨b, j, none⟩ x) (some b) :=
 ⟨h.os, h.tape, h.output, by simpa using h.size, fun k hk hne => (Below.heap_setCell W' ⟨b, j, none⟩ x k (by simpa using hne)).trans (h.block k hk hne)⟩
theorem max_if (a c : Int) : (if a < c then c else a) = max a c := by omega
theorem grown_alloc {W W' : World} {r : Option Nat} (h : W.grownBy W' r) (o : Obj) : W.grownBy (W'.alloc o) r := h.trans (World.grownBy_alloc _ _ _)
theorem grown_drew {W W' : World} {r : Option Nat} (h : W.grownBy W' r) : W.grownBy W'.drew r := ⟨h.os, h.tape, h.output, h.size, h.block⟩
set_option maxHeartbeats 2000000 in
set_option maxRecDepth 100000 in
theorem grow_any (g b s : Nat) (a0 a1 a2 a3 c0 c1 c2 c3 : Int) (w : World) (hrow : w.heap[g]? = some (pairs95 b c0 c1 c2 c3)) (hb : w.heap[b]? = some (mac91 a0 a1 a2 a3 s)) :
  Calls Try.prog 36 #[.slice (some ⟨g, 0, none⟩) 4 4] w fun e w' => e = .returned (.tuple #[]) ∧ w.grownBy w' (some b) ∧ w'.heap[b]? = some (mac91 (max a0 c0) (max a1 c1) (max a2 c2) (max a3 c3) s) := by
 have hu95 := Try.underlying95
 have HR := Aside0.mk hrow
 have HB := Aside0.mk hb
 have hgb : some g ≠ some b := by
  intro e
  injection e with e
  subst e
  rw [hrow] at hb
  have := (Option.some.inj hb)
  unfold pairs95 mac91 at this
  injection this with h1 h2
  exact absurd h2 (by decide)
 have HN := Aside0.mk hgb
 clear hrow hb hgb
 go_enter Try.func36, Try.ntmps36
 go_wp2
 go_loopw [6] (fun vi wr => ∃ i : Nat, vi = .int .i64 i ∧ i ≤ 4 ∧ Aside0 (w.grownBy wr (some b)) ∧ Aside0 (wr.heap[b]? = some (stepG b a0 a1 a2 a3 c0 c1 c2 c3 s i))) (fun vi wr => (4 - intOf vi).toNat)
 case atStart => exact ⟨0, rfl, by omega, ⟨World.grownBy.refl _ _⟩, ⟨HB.out⟩⟩
 case round =>
  obtain ⟨i, rfl, h1, HG, HS⟩ := hrel
  have bR := HG.out.block g (blk_lt HR.out) HN.out
  rw [HR.out] at bR
  obtain hi | hi | hi | hi | hi : i = 0 ∨ i = 1 ∨ i = 2 ∨ i = 3 ∨ i = 4 := by omega
  ·subst hi
   have bS : wr.heap[b]? = some (mac91 a0 a1 a2 a3 s) := HS.out
   have x0 : wr.cell? ⟨g, 0, none⟩ = some (.pointer (some ⟨b, 0, none⟩)) := (blk_cell bR 0).trans rfl
   have x1 : wr.cell? ⟨g, 1, none⟩ = some (.int .i64 c0) := (blk_cell bR 1).trans rfl
   have BS := Aside0.mk bS
   have bN := blk_new wr (.cells #[.pointer (some ⟨b, 0, none⟩), .int .i64 c0] 95)
   have bA := blk_alloc bS (.cells #[.pointer (some ⟨b, 0, none⟩), .int .i64 c0] 95)
   have n0 : (wr.alloc (.cells #[.pointer (some ⟨b, 0, none⟩), .int .i64 c0] 95)).cell? ⟨wr.heap.size, 0, none⟩ = some (.pointer (some ⟨b, 0, none⟩)) := (blk_cell bN 0).trans rfl
   have n1 : (wr.alloc (.cells #[.pointer (some ⟨b, 0, none⟩), .int .i64 c0] 95)).cell? ⟨wr.heap.size, 1, none⟩ = some (.int .i64 c0) := (blk_cell bN 1).trans rfl
   have y0 : (wr.alloc (.cells #[.pointer (some ⟨b, 0, none⟩), .int .i64 c0] 95)).cell? ⟨b, 0, none⟩ = some (.int .i64 a0) := (blk_cell bA 0).trans rfl
   have fy : (wr.alloc (.cells #[.pointer (some ⟨b, 0, none⟩), .int .i64 c0] 95)).frozen? ⟨b, 0, none⟩ = false := blk_frozen bA 0
   have BA := Aside0.mk bA
   clear bS bR bN bA
   go_wp2
   go_region
   go_wp2
   go_roundw
   case rel => exact ⟨1, rfl, by omega, ⟨by first | exact grown_drew (grown_set (grown_alloc HG.out _) 0 _) | exact grown_set (grown_drew (grown_alloc HG.out _)) 0 _⟩, ⟨blk_drew (by rw [max_if]; exact mac_set0 BA.out _)⟩⟩
   case measure => simp [intOf]
  ·subst hi
   have bS : wr.heap[b]? = some (mac91 (max a0 c0) a1 a2 a3 s) := HS.out
   have x0 : wr.cell? ⟨g, 2, none⟩ = some (.pointer (some ⟨b, 1, none⟩)) := (blk_cell bR 2).trans rfl
   have x1 : wr.cell? ⟨g, 3, none⟩ = some (.int .i64 c1) := (blk_cell bR 3).trans rfl
   have BS := Aside0.mk bS
   have bN := blk_new wr (.cells #[.pointer (some ⟨b, 1, none⟩), .int .i64 c1] 95)
   have bA := blk_alloc bS (.cells #[.pointer (some ⟨b, 1, none⟩), .int .i64 c1] 95)
   have n0 : (wr.alloc (.cells #[.pointer (some ⟨b, 1, none⟩), .int .i64 c1] 95)).cell? ⟨wr.heap.size, 0, none⟩ = some (.pointer (some ⟨b, 1, none⟩)) := (blk_cell bN 0).trans rfl
   have n1 : (wr.alloc (.cells #[.pointer (some ⟨b, 1, none⟩), .int .i64 c1] 95)).cell? ⟨wr.heap.size, 1, none⟩ = some (.int .i64 c1) := (blk_cell bN 1).trans rfl
   have y0 : (wr.alloc (.cells #[.pointer (some ⟨b, 1, none⟩), .int .i64 c1] 95)).cell? ⟨b, 1, none⟩ = some (.int .i64 a1) := (blk_cell bA 1).trans rfl
   have fy : (wr.alloc (.cells #[.pointer (some ⟨b, 1, none⟩), .int .i64 c1] 95)).frozen? ⟨b, 1, none⟩ = false := blk_frozen bA 1
   have BA := Aside0.mk bA
   clear bS bR bN bA
   go_wp2
   go_region
   go_wp2
   go_roundw
   case rel => exact ⟨2, rfl, by omega, ⟨by first | exact grown_drew (grown_set (grown_alloc HG.out _) 1 _) | exact grown_set (grown_drew (grown_alloc HG.out _)) 1 _⟩, ⟨blk_drew (by rw [max_if]; exact mac_set1 BA.out _)⟩⟩
   case measure => simp [intOf]
  ·subst hi
   have bS : wr.heap[b]? = some (mac91 (max a0 c0) (max a1 c1) a2 a3 s) := HS.out
   have x0 : wr.cell? ⟨g, 4, none⟩ = some (.pointer (some ⟨b, 2, none⟩)) := (blk_cell bR 4).trans rfl
   have x1 : wr.cell? ⟨g, 5, none⟩ = some (.int .i64 c2) := (blk_cell bR 5).trans rfl
   have BS := Aside0.mk bS
   have bN := blk_new wr (.cells #[.pointer (some ⟨b, 2, none⟩), .int .i64 c2] 95)
   have bA := blk_alloc bS (.cells #[.pointer (some ⟨b, 2, none⟩), .int .i64 c2] 95)
   have n0 : (wr.alloc (.cells #[.pointer (some ⟨b, 2, none⟩), .int .i64 c2] 95)).cell? ⟨wr.heap.size, 0, none⟩ = some (.pointer (some ⟨b, 2, none⟩)) := (blk_cell bN 0).trans rfl
   have n1 : (wr.alloc (.cells #[.pointer (some ⟨b, 2, none⟩), .int .i64 c2] 95)).cell? ⟨wr.heap.size, 1, none⟩ = some (.int .i64 c2) := (blk_cell bN 1).trans rfl
   have y0 : (wr.alloc (.cells #[.pointer (some ⟨b, 2, none⟩), .int .i64 c2] 95)).cell? ⟨b, 2, none⟩ = some (.int .i64 a2) := (blk_cell bA 2).trans rfl
   have fy : (wr.alloc (.cells #[.pointer (some ⟨b, 2, none⟩), .int .i64 c2] 95)).frozen? ⟨b, 2, none⟩ = false := blk_frozen bA 2
   have BA := Aside0.mk bA
   clear bS bR bN bA
   go_wp2
   go_region
   go_wp2
   go_roundw
   case rel => exact ⟨3, rfl, by omega, ⟨by first | exact grown_drew (grown_set (grown_alloc HG.out _) 2 _) | exact grown_set (grown_drew (grown_alloc HG.out _)) 2 _⟩, ⟨blk_drew (by rw [max_if]; exact mac_set2 BA.out _)⟩⟩
   case measure => simp [intOf]
  ·subst hi
   have bS : wr.heap[b]? = some (mac91 (max a0 c0) (max a1 c1) (max a2 c2) a3 s) := HS.out
   have x0 : wr.cell? ⟨g, 6, none⟩ = some (.pointer (some ⟨b, 3, none⟩)) := (blk_cell bR 6).trans rfl
   have x1 : wr.cell? ⟨g, 7, none⟩ = some (.int .i64 c3) := (blk_cell bR 7).trans rfl
   have BS := Aside0.mk bS
   have bN := blk_new wr (.cells #[.pointer (some ⟨b, 3, none⟩), .int .i64 c3] 95)
   have bA := blk_alloc bS (.cells #[.pointer (some ⟨b, 3, none⟩), .int .i64 c3] 95)
   have n0 : (wr.alloc (.cells #[.pointer (some ⟨b, 3, none⟩), .int .i64 c3] 95)).cell? ⟨wr.heap.size, 0, none⟩ = some (.pointer (some ⟨b, 3, none⟩)) := (blk_cell bN 0).trans rfl
   have n1 : (wr.alloc (.cells #[.pointer (some ⟨b, 3, none⟩), .int .i64 c3] 95)).cell? ⟨wr.heap.size, 1, none⟩ = some (.int .i64 c3) := (blk_cell bN 1).trans rfl
   have y0 : (wr.alloc (.cells #[.pointer (some ⟨b, 3, none⟩), .int .i64 c3] 95)).cell? ⟨b, 3, none⟩ = some (.int .i64 a3) := (blk_cell bA 3).trans rfl
   have fy : (wr.alloc (.cells #[.pointer (some ⟨b, 3, none⟩), .int .i64 c3] 95)).frozen? ⟨b, 3, none⟩ = false := blk_frozen bA 3
   have BA := Aside0.mk bA
   clear bS bR bN bA
   go_wp2
   go_region
   go_wp2
   go_roundw
   case rel => exact ⟨4, rfl, by omega, ⟨by first | exact grown_drew (grown_set (grown_alloc HG.out _) 3 _) | exact grown_set (grown_drew (grown_alloc HG.out _)) 3 _⟩, ⟨blk_drew (by rw [max_if]; exact mac_set3 BA.out _)⟩⟩
   case measure => simp [intOf]
  ·subst hi
   clear bR
   go_wp2
   go_end0
   exact ⟨rfl, HG.out, HS.out⟩
end Go.Proofs.Ytfdoncgljohndaa.P
namespace Go.Proofs.Ytfdoncgljohndaa.P
open Go.RowKit Go.Fld Go.Maps Go.Proofs.YtfdoncgljohndaaW.PrintWords Go.Proofs.YtfdoncgljohndaaW.PrintLast Go.Proofs.YtfdoncgljohndaaW.PrintMore
theorem maxs_bd {l : List Int} {b : Int} (h0 : 0 ≤ b) (h : ∀ x ∈ l, x ≤ b) : 0 ≤ maxs l ∧ maxs l ≤ b := ⟨maxs_nonneg l, (maxs_le_iff l b).2 ⟨h0, h⟩⟩
theorem mem_ofM {L : List S28} {x : Int} {c : S28} (h : c ∈ ofM L x) : c ∈ L := (List.mem_filter.1 h).1
theorem seenM_bd {L : List S28} (hL : ∀ c ∈ L, okB c) (x : Int) : 0 ≤ seenM L x ∧ seenM L x ≤ 1099511627776 :=
 maxs_bd (by omega) fun y hy => by obtain ⟨c, hc, rfl⟩ := List.mem_map.1 hy; have := hL c (mem_ofM hc); unfold okB at this; omega
theorem lookM_bd {L : List S28} (hL : ∀ c ∈ L, okB c) (x : Int) : 0 ≤ lookM L x ∧ lookM L x ≤ 1099511627776 :=
 maxs_bd (by omega) fun y hy => by obtain ⟨c, hc, rfl⟩ := List.mem_map.1 hy; have := hL c (mem_ofM hc); unfold okB at this; omega
theorem brokM_bd {L : List S28} (hL : ∀ c ∈ L, okB c) (x : Int) : 0 ≤ brokM L x ∧ brokM L x ≤ 1099511627776 :=
 maxs_bd (by omega) fun y hy => by obtain ⟨c, hc, rfl⟩ := List.mem_map.1 hy; have := hL c (mem_ofM hc); unfold okB at this; omega
theorem lastM_bd {L : List S28} (hL : ∀ c ∈ L, okB c) (x : Int) : 0 ≤ lastM L x ∧ lastM L x ≤ 1073741824 :=
 maxs_bd (by omega) fun y hy => by obtain ⟨c, hc, rfl⟩ := List.mem_map.1 hy; have := hL c (mem_ofM hc); unfold okB at this; omega
theorem seqs_le (L : List S28) (x : Int) : (nub (seqsM L x)).length ≤ L.length := by
 refine Nat.le_trans (length_nub_le _) ?_
 unfold seqsM ofM
 rw [List.length_map]
 exact List.length_filter_le _ _
theorem missM_bd {L : List S28} (hL : ∀ c ∈ L, okB c) (hn : L.length ≤ 1000) (x : Int) : -1000 ≤ missM L x ∧ missM L x ≤ 1099511627776 := by
 have := lastM_bd hL x
 have := seqs_le L x
 unfold missM
 omega
/-- The sum over the machines that have come. -/
def smL (K : List Int) (left : Lit → Bool) (f : Int → Int) : Int := sm K (fun x => if left (.int .i64 x) = true then 0 else f x)
theorem smL_all {K : List Int} {left : Lit → Bool} {f : Int → Int} (h : ∀ x ∈ K, left (.int .i64 x) = true) : smL K left f = 0 := sm_zero fun x hx => by simp [h x hx]
theorem smL_none {K : List Int} {left : Lit → Bool} {f : Int → Int} (h : ∀ kl, left kl = false) : smL K left f = sm K f := sm_congr fun x hx => by simp [h]
theorem smL_step {K : List Int} (hK : K.Nodup) {left : Lit → Bool} (f : Int → Int) {x : Int} (hx : x ∈ K) (hl : left (.int .i64 x) = true) :
  smL K (fun z => left z && !z.sameKey (.int .i64 x)) f = smL K left f + f x := by
 unfold smL
 rw [sm_one hK hx _ (fun y => if left (.int .i64 y) = true then 0 else f y) (fun y hy hne => by
  have : (y == x) = false := beq_eq_false_iff_ne.2 hne
  simp only [sameKey_i64, this, Bool.not_false, Bool.and_true])]
 simp only [sameKey_i64, beq_self_eq_true, Bool.not_true, Bool.and_false, hl, if_true]
 simp
theorem sm_range {l : List Int} {f : Int → Int} (a b : Int) (ha : a ≤ 0) (hb : 0 ≤ b) (h : ∀ x ∈ l, a ≤ f x ∧ f x ≤ b) : l.length * a ≤ sm l f ∧ sm l f ≤ l.length * b := by
 induction l with
 | nil => simp [sm_nil]
 | cons x l ih =>
  rw [sm_cons]; have := h x (by simp); have := ih fun y hy => h y (by simp [hy])
  have e1 : ((x :: l).length : Int) * b = l.length * b + b := by simp [Int.add_mul]
  have e2 : ((x :: l).length : Int) * a = l.length * a + a := by simp [Int.add_mul]
  omega
theorem smL_range {K : List Int} (hn : K.length ≤ 1000) {left : Lit → Bool} {f : Int → Int} (h : ∀ x, -1000 ≤ f x ∧ f x ≤ 1099511627776) : -1000000 ≤ smL K left f ∧ smL K left f ≤ 1099511627776000 := by
 have := sm_range (l := K) (f := fun x => if left (.int .i64 x) = true then 0 else f x) (-1000) 1099511627776 (by omega) (by omega) (fun x _ => by
  have := h x
  by_cases c : left (.int .i64 x) = true
  ·simp only [if_pos c]; omega
  ·simp only [if_neg c]; omega)
 unfold smL
 have h1 : (K.length : Int) * -1000 ≥ -1000000 := by omega
 have h2 : (K.length : Int) * 1099511627776 ≤ 1099511627776000 := by omega
 omega
variable {w wr : World} {D : DataW Nat} {B S : Int → Nat} {K : List Int} {L : List S28} {n : Nat}
theorem lit_bool_ne {b : Nat} : ¬ ((DataW.lit (.bool false) : DataW Nat) = .lit (.int .i64 (b : Int))) := fun h => by injection h with h; injection h
theorem lit_nat_inj {a b : Nat} (h : (DataW.lit (.int .i64 (a : Int)) : DataW Nat) = .lit (.int .i64 (b : Int))) : a = b := by
 injection h with h
 injection h with _ h
 exact Int.ofNat_inj.1 h
def mkV : Option Nat → Value
 | none => .pointer none
 | some b => .pointer (some ⟨b, 0, none⟩)
/-- A step of the range over the machines. -/
theorem next_mac {W0 : World} (hG : GI w W0 D B S K L n) {ops : Array Oper} {rest : List Oper} {o : Oper} {a : Act} {Q : Exit → Act → World → Prop} (hg : o.guard = none) (it : Operand) (hop : o.op = Op.next it false) (r : Nat) (left : Lit → Bool) (cnt : Nat)
  (hit : a.eval it = .pointer (some ⟨r, 0, none⟩)) (h : wr.ranges Try.prog 3 ptrE (w.heap.size + 1) r n D left cnt)
  (hDone : (∀ kl, left kl = false) → wpList Try.prog ops Q rest (a.put o.dst (.tuple #[.bool false])) wr)
  (hMore : ∀ (x : Int) (w' : World) (cnt' : Nat), x ∈ K → left (.int .i64 x) = true → w'.ranges Try.prog 3 ptrE (w.heap.size + 1) r n D (fun z => left z && !z.sameKey (.int .i64 x)) cnt' → cnt' < cnt →
   wr.grownBy w' (some r) → (Instr.entry (.pointer (some ⟨r, 0, none⟩))).run Try.prog w' = .ok (.tuple #[.int .i64 x, .pointer (some ⟨B x, 0, none⟩)]) w' → wpList Try.prog ops Q rest (a.put o.dst (.tuple #[.bool true, .int .i64 x, .pointer (some ⟨B x, 0, none⟩)])) w') :
  wpList Try.prog ops Q (o :: rest) a wr := by
 refine wpList_next_ranges wr hg it hop 3 (int_keyed Try.underlying3) ptrE (Value.int .i64) mkV (fun key kl hkey => by obtain ⟨x, rfl, _⟩ := Maps.keyOf_int_inv Try.underlying3 hkey; exact ⟨x, rfl⟩)
  (fun v y hv => by
   rcases ptrE_shape hv with rfl | ⟨b, rfl, _⟩
   ·exact ⟨none, rfl⟩
   ·exact ⟨some b, rfl⟩) (w.heap.size + 1) r n D left cnt hit h (fun _ hl => hDone hl) ?_
 intro x c kl y w' cnt' hkey hlk hv hat hrg hlt hgr hsz hen
 obtain ⟨x', ex, rfl, hwx⟩ := Maps.keyOf_int_inv Try.underlying3 hkey
 cases ex
 have hh : Maps.has D (.int .i64 x) = true := has_true_of_atKey hat
 rw [hG.has] at hh
 have hx : x ∈ K := of_decide_eq_true hh
 have e1 : y.1 = .lit (.int .i64 (B x)) := (hat (.map [])).symm.trans (hG.at_ x hx _)
 have ec : c = some (B x) := by
  cases c with
  | none =>
   exact absurd ((congrArg Prod.fst (Option.some.inj hv) : (DataW.lit (.bool false) : DataW Nat) = y.1).trans e1) lit_bool_ne
  | some b =>
   rw [lit_nat_inj ((congrArg Prod.fst (Option.some.inj hv) : (DataW.lit (.int .i64 (b : Int)) : DataW Nat) = y.1).trans e1)]
 subst ec
 exact hMore x w' cnt' hx hlk hrg hlt hgr hen
end Go.Proofs.Ytfdoncgljohndaa.P
namespace Go.Proofs.Ytfdoncgljohndaa.P
open Go.RowKit Go.Fld Go.Maps Go.Proofs.YtfdoncgljohndaaW.PrintWords Go.Proofs.YtfdoncgljohndaaW.PrintLast Go.Proofs.YtfdoncgljohndaaW.PrintMore
theorem cells28 {w wr : World} {A : Option Addr} {l : List S28} (hr : Kd.C k28 w A l.length l) (hb : Below w.heap.size w wr) (h : Nat) (hh : h < l.length) : ∃ ad, A = some ad ∧ wr.cell? (ad.add (h * 7)) = some (.int .i64 (l.getD h z28).f0) ∧ wr.cell? ⟨(ad.add (h * 7)).block, (ad.add (h * 7)).off + 1, none⟩ = some (.int .i64 (l.getD h z28).f1) ∧ wr.cell? ⟨(ad.add (h * 7)).block, (ad.add (h * 7)).off + 2, none⟩ = some (.int .i64 (l.getD h z28).f2) ∧ wr.cell? ⟨(ad.add (h * 7)).block, (ad.add (h * 7)).off + 3, none⟩ = some (.int .i64 (l.getD h z28).f3) ∧ wr.cell? ⟨(ad.add (h * 7)).block, (ad.add (h * 7)).off + 4, none⟩ = some (.int .i64 (l.getD h z28).f4) ∧ wr.cell? ⟨(ad.add (h * 7)).block, (ad.add (h * 7)).off + 5, none⟩ = some (.int .i64 (l.getD h z28).f5) ∧ wr.cell? ⟨(ad.add (h * 7)).block, (ad.add (h * 7)).off + 6, none⟩ = some (.int .u64 (l.getD h z28).f6) := by
 obtain ⟨ad, e, h0, h1, h2, h3, h4, h5, h6⟩ := at_T28 hr (h : Int) (by omega) (by omega)
 simp only [Int.toNat_natCast, rd_T28] at h0 h1 h2 h3 h4 h5 h6
 exact ⟨ad, e, pw_cell_below hb h0, pw_cell_below hb h1, pw_cell_below hb h2, pw_cell_below hb h3, pw_cell_below hb h4, pw_cell_below hb h5, pw_cell_below hb h6⟩
def box28 (x : S28) : Obj := .cells #[.int .i64 x.f0, .int .i64 x.f1, .int .i64 x.f2, .int .i64 x.f3, .int .i64 x.f4, .int .i64 x.f5, .int .u64 x.f6] 28
/-- What a report's box reads as_. -/
theorem box_cells {W : World} {g : Nat} {x : S28} (h : W.heap[g]? = some (box28 x)) : W.cell? ⟨g, 0, none⟩ = some (.int .i64 x.f0) ∧ W.cell? ⟨g, 1, none⟩ = some (.int .i64 x.f1) ∧ W.cell? ⟨g, 2, none⟩ = some (.int .i64 x.f2) ∧ W.cell? ⟨g, 3, none⟩ = some (.int .i64 x.f3) ∧ W.cell? ⟨g, 4, none⟩ = some (.int .i64 x.f4) ∧ W.cell? ⟨g, 5, none⟩ = some (.int .i64 x.f5) ∧ W.cell? ⟨g, 6, none⟩ = some (.int .u64 x.f6) :=
 ⟨(blk_cell h 0).trans rfl, (blk_cell h 1).trans rfl, (blk_cell h 2).trans rfl, (blk_cell h 3).trans rfl, (blk_cell h 4).trans rfl, (blk_cell h 5).trans rfl, (blk_cell h 6).trans rfl⟩
theorem box_seq {w wr w3 : World} {D : DataW Nat} {B S : Int → Nat} {K : List Int} {L : List S28} {n g : Nat} {x : S28} {k : Int} (h : GI w wr D B S K L n) (hk : k ∈ K) (hb : wr.heap[g]? = some (box28 x)) (hg : wr.grownBy w3 (some (S k))) : w3.heap[g]? = some (box28 x) := by
 refine blk_grown hb hg ?_
 intro e
 injection e with e
 subst e
 obtain ⟨es, cl, hs, _⟩ := h.set_ k hk
 rw [hs] at hb
 cases hb
theorem mac_seq {w wr w3 : World} {D : DataW Nat} {B S : Int → Nat} {K : List Int} {L : List S28} {n : Nat} {k : Int} (h : GI w wr D B S K L n) (hk : k ∈ K) (hg : wr.grownBy w3 (some (S k))) : w3.heap[B k]? = some (mac91 (seenM L k) (lookM L k) (brokM L k) (lastM L k) (S k)) :=
 blk_grown (h.mac k hk) hg (fun e => h.ne hk hk (by injection e))
theorem macs_snoc (L : List S28) (c : S28) : macs (L ++ [c]) = if c.f0 ∈ macs L then macs L else macs L ++ [c.f0] := by
 unfold macs
 rw [List.map_append]
 exact nub_snoc _ _
theorem macs_old {K : List Int} {L : List S28} {c : S28} (h : K = macs L) (hc : c.f0 ∈ K) : K = macs (L ++ [c]) := by
 rw [macs_snoc, ← h, if_pos hc]
theorem macs_new {K : List Int} {L : List S28} {c : S28} (h : K = macs L) (hc : c.f0 ∉ K) : K ++ [c.f0] = macs (L ++ [c]) := by
 rw [macs_snoc, ← h, if_neg hc]
theorem gath_end {L : List S28} {K : List Int} {left : Lit → Bool} {a2 s2 s3 s4 s5 : Int} {sz : Nat} (hS : s2 = smL K left (seenM L) ∧ s3 = smL K left (lookM L) ∧ s4 = smL K left (brokM L) ∧ s5 = smL K left (missM L)) (hl : ∀ kl, left kl = false) (hK : K = macs L) (hZ : sz = K.length) :
  (a2, (sz : Int), s2, s3, s4, s5) = gathR L a2 := by
 obtain ⟨h2, h3, h4, h5⟩ := hS
 rw [smL_none hl, hK] at h2 h3 h4 h5
 unfold gathR
 rw [h2, h3, h4, h5, hZ, hK]
theorem below_six {w W : World} (h : Below w.heap.size w W) (u0 u1 u2 u3 u4 u5 : Value) :
  Below w.heap.size w ((((((W.setCell ⟨w.heap.size, 0, none⟩ u0).setCell ⟨w.heap.size, 1, none⟩ u1).setCell ⟨w.heap.size, 2, none⟩ u2).setCell ⟨w.heap.size, 3, none⟩ u3).setCell ⟨w.heap.size, 4, none⟩ u4).setCell ⟨w.heap.size, 5, none⟩ u5) :=
 (((((h.setCell (p := ⟨w.heap.size, 0, none⟩) (Nat.le_refl _) _).setCell (p := ⟨w.heap.size, 1, none⟩) (Nat.le_refl _) _).setCell (p := ⟨w.heap.size, 2, none⟩) (Nat.le_refl _) _).setCell (p := ⟨w.heap.size, 3, none⟩) (Nat.le_refl _) _).setCell (p := ⟨w.heap.size, 4, none⟩) (Nat.le_refl _) _).setCell (p := ⟨w.heap.size, 5, none⟩) (Nat.le_refl _) _
theorem acc_not1 {k : Nat} {keys : List Int} {p : Int} {x : S28} (h : ¬ x.f2 = p) : accR k keys p x = false := by
 unfold accR
 rw [show (x.f2 == p) = false from beq_eq_false_iff_ne.2 h]; rfl
theorem acc_not0 {k : Nat} {keys : List Int} {p : Int} {x : S28} {q : Int} (h : okR k keys x = some q) (hq : ¬ q = 0) : accR k keys p x = false := by
 unfold accR
 rw [h, show ((some q : Option Int) == some 0) = false from by simpa using hq, Bool.and_false]
theorem acc_yes {k : Nat} {keys : List Int} {p : Int} {x : S28} {q : Int} (hp : x.f2 = p) (h : okR k keys x = some q) (hq : q = 0) : accR k keys p x = true := by
 unfold accR
 subst hq
 rw [h, hp]; simp
theorem filt_no {l1 : List S28} {i : Nat} {x : S28} {f : S28 → Bool} (h : l1.take (i + 1) = l1.take i ++ [x]) (hx : f x = false) : (l1.take (i + 1)).filter f = (l1.take i).filter f := by
 rw [h, List.filter_append]; simp [hx]
theorem filt_yes {l1 : List S28} {i : Nat} {x : S28} {f : S28 → Bool} (h : l1.take (i + 1) = l1.take i ++ [x]) (hx : f x = true) : (l1.take (i + 1)).filter f = (l1.take i).filter f ++ [x] := by
 rw [h, List.filter_append]; simp [hx]
set_option maxHeartbeats 4000000 in
set_option maxRecDepth 100000 in
theorem gather_any (k : Nat) (A0 : Option Addr) (c0 : Nat) (l0 : List Int) (A1 : Option Addr) (c1 : Nat) (l1 : List (S28)) (a2 : Int) (w : World) (hr0 : Kd.C (Kd.int .u64) w A0 l0.length l0) (hc0 : l0.length ≤ c0) (hr1 : Kd.C k28 w A1 l1.length l1) (hc1 : l1.length ≤ c1)
  (hl0 : l0.length ≤ 1000000) (hl1 : l1.length ≤ 1000) (hok : ∀ c ∈ l1, c.f2 = a2 → ∃ q, okR k l0 c = some q) :
  Calls Try.prog 19 #[.slice A0 l0.length c0, .slice A1 l1.length c1, .int .i64 a2] w fun e w' => Aside0 (∃ r : Int × Int × Int × Int × Int × Int, r = gathR (l1.filter (accR k l0 a2)) a2 ∧ e = .returned (.agg #[.int .i64 r.1, .int .i64 r.2.1, .int .i64 r.2.2.1, .int .i64 r.2.2.2.1, .int .i64 r.2.2.2.2.1, .int .i64 r.2.2.2.2.2]) ∧ Below w.heap.size w w') := by
 have hu28 := Try.underlying28
 have hu40 := Try.underlying40
 have hu91 := Try.underlying91
 have hu95 := Try.underlying95
 have HR0 := Aside0.mk hr0
 have HR1 := Aside0.mk hr1
 have HC0 := Aside0.mk hc0
 have HC1 := Aside0.mk hc1
 have HO := Aside0.mk hok
 clear hr0 hr1 hc0 hc1 hok
 have hmm := @run_makeMap Try.prog
 go_enter Try.func19, Try.ntmps19
 go_wp2
 go_loopw [18] (fun vi wr => ∃ (i : Nat) (D : DataW Nat) (B S : Int → Nat) (K : List Int), vi = .int .i64 i ∧ i ≤ l1.length ∧ Aside0 (GI w wr D B S K ((l1.take i).filter (accR k l0 a2)) (2 * i)) ∧ Aside0 (K = macs ((l1.take i).filter (accR k l0 a2)))) (fun vi wr => ((l1.length : Int) - intOf vi).toNat)
 case atStart => exact ⟨0, _, _, _, _, rfl, by omega, ⟨GI.start w⟩, ⟨rfl⟩⟩
 case round =>
  obtain ⟨i, D, B, S, K, rfl, h1, HG, HK⟩ := hrel
  by_cases hij : i < l1.length
  ·obtain ⟨ad, e, k0, k1, k2, k3, k4, k5, k6⟩ := cells28 HR1.out HG.out.below i hij
   subst e
   have hget : l1.getD i z28 = l1[i] := by simp [hij]
   rw [hget] at k0 k1 k2 k3 k4 k5 k6
   have hmem : l1[i] ∈ l1 := List.getElem_mem hij
   have htake : l1.take (i + 1) = l1.take i ++ [l1[i]] := by rw [List.take_add_one]; simp [hij]
   generalize l1[i] = x at k0 k1 k2 k3 k4 k5 k6 hmem htake
   have HM := Aside0.mk hmem
   have HT := Aside0.mk htake
   clear hmem htake hget
   obtain ⟨b0, b1, b2, b3, b4, b5, b6⟩ := box_cells (blk_new wr (box28 x))
   unfold box28 at b0 b1 b2 b3 b4 b5 b6
   have HA0 := HG.out.kept (World.grownBy_alloc wr (box28 x) none)
   have HB0 := Aside0.mk HA0.below
   have HA := Aside0.mk HA0
   clear HA0
   unfold box28 at HA HB0
   by_cases hp : x.f2 = a2
   ·have hpb : (x.f2 != a2) = false := bne_eq_false_iff_eq.2 hp
    obtain ⟨q, hq⟩ := HO.out x HM.out hp
    have HQ := Aside0.mk hq
    have HP := Aside0.mk hp
    clear hp hq
    by_cases hq0 : q = 0
    ·have hqb : (q != 0) = false := bne_eq_false_iff_eq.2 hq0
     have HACC := Aside0.mk (acc_yes HP.out HQ.out hq0)
     clear hq0
     have hbd := (acc_bounds HACC.out).1
     have hWk : (Lit.int .i64 x.f0).wf = true := WalkArith.wf_i64 (by unfold okB at hbd; have := (acc_bounds HACC.out).2; omega)
     have hWs : (Lit.int .i64 x.f1).wf = true := WalkArith.wf_i64 (by unfold okB at hbd; omega)
     have HWk := Aside0.mk hWk
     have HWs := Aside0.mk hWs
     clear hbd hWk hWs
     by_cases hmk : x.f0 ∈ K
     ·have HMK := Aside0.mk hmk
      clear hmk
      go_wp2_with (first | (go_at_call 17; refine (field_Right.calls k A0 c0 l0 x.f0 x.f1 x.f2 x.f3 x.f4 x.f5 x.f6 q _ (Kd.C_below HR0.out HB0.out) HC0.out HQ.out).mono ?_; rintro e w1 ⟨rfl, hb⟩; have HA1 := Aside0.mk (HA.out.kept (grown_of_below hb none)); obtain ⟨d0, d1, d2, d3, d4, d5, d6⟩ := box_cells (x := x) (blk_below (blk_new wr (box28 x)) hb); have HBX := Aside0.mk (blk_below (blk_new wr (box28 x)) hb); clear hb b0 b1 b2 b3 b4 b5 b6 k0 k1 k2 k3 k4 k5 k6) | (at_lookup; refine lookup_old HA1.out rfl _ _ rfl rfl x.f0 HWk.out rfl HMK.out ?_))
      have hmac := HA1.out.mac x.f0 HMK.out
      have e4 : w1.cell? ⟨B x.f0, 4, none⟩ = some (.map (some (S x.f0))) := (blk_cell hmac 4).trans rfl
      have HMC := Aside0.mk hmac
      clear hmac
      go_still_tail 6, (by kernel_rfl)
      refine store_seq HA1.out.drew (by omega) rfl _ _ _ rfl x.f0 HMK.out rfl x.f1 HWs.out rfl rfl ?_
      intro w3 hm3 hg3
      have HMX := HMK
      clear d0 d1 d2 d3 d4 d5 d6
      have m3 := Aside0.mk (mac_seq HA1.out.drew HMX.out hg3)
      have X3 := Aside0.mk (box_seq HA1.out.drew HMX.out (blk_drew HBX.out) hg3)
      obtain ⟨d0, d1, d2, d3, d4, d5, d6⟩ := box_cells X3.out
      have HM3 := Aside0.mk hm3
      have HG3 := Aside0.mk hg3
      clear hm3 hg3
      go_wp2
      go_still_tail 24, (by kernel_rfl)
      go_wp2_with (go_at_call 36; refine (grow_any w3.heap.size (B x.f0) (S x.f0) _ _ _ _ x.f3 x.f4 x.f5 x.f1 _ (blk_drew (blk_new _ _)) (blk_drew (blk_alloc m3.out _))).mono ?_; rintro e w4 ⟨rfl, hg4, h4⟩; have HU := Aside0.mk (HA1.out.drew.upd x HMX.out HM3.out HG3.out (World.grownBy.trans (grown_drew (grown_alloc (World.grownBy.refl w3 _) _)) hg4) h4); clear hg4 h4)
      go_roundw
      case rel => exact ⟨i + 1, D, B, S, K, by go_num, by omega, ⟨by rw [filt_yes HT.out HACC.out]; exact HU.out.more (by omega)⟩, ⟨by rw [filt_yes HT.out HACC.out]; exact macs_old HK.out HMK.out⟩⟩
      case measure => simp [intOf]; omega
     ·have HMK := Aside0.mk hmk
      clear hmk
      go_wp2_with (first | (go_at_call 17; refine (field_Right.calls k A0 c0 l0 x.f0 x.f1 x.f2 x.f3 x.f4 x.f5 x.f6 q _ (Kd.C_below HR0.out HB0.out) HC0.out HQ.out).mono ?_; rintro e w1 ⟨rfl, hb⟩; have HA1 := Aside0.mk (HA.out.kept (grown_of_below hb none)); obtain ⟨d0, d1, d2, d3, d4, d5, d6⟩ := box_cells (x := x) (blk_below (blk_new wr (box28 x)) hb); have HBX := Aside0.mk (blk_below (blk_new wr (box28 x)) hb); clear hb b0 b1 b2 b3 b4 b5 b6 k0 k1 k2 k3 k4 k5 k6) | (at_lookup; refine lookup_new HA1.out rfl _ _ rfl rfl x.f0 HWk.out rfl HMK.out ?_; have p0 : ((w1.alloc (.map #[] 0)).alloc (.cells #[.int .i64 0, .int .i64 0, .int .i64 0, .int .i64 0, .map (some w1.heap.size)] 91)).cell? ⟨wr.heap.size, 0, none⟩ = some (.int .i64 x.f0) := (box_cells (blk_alloc (blk_alloc HBX.out _) _)).1) | (at_mapUpdate; refine store_new HA1.out (by omega) rfl _ _ _ rfl rfl x.f0 HWk.out rfl rfl HMK.out ?_; intro w2 D' B' S' hGI hB' hg2; have HI2 := Aside0.mk hGI; have HB2 := Aside0.mk hB'; have HG2 := Aside0.mk hg2; clear hGI hB' hg2 p0 d0 d1 d2 d3 d4 d5 d6))
      have HMX : Aside0 (x.f0 ∈ K ++ [x.f0]) := ⟨by simp⟩
      have X2 := Aside0.mk (blk_grown (blk_alloc (blk_alloc HBX.out (.map #[] 0)) (mac91 0 0 0 0 w1.heap.size)) HG2.out (fun e => by have := HG.out.size_le; injection e with e; omega))
      obtain ⟨d0, d1, d2, d3, d4, d5, d6⟩ := box_cells X2.out
      have e4 : w2.cell? ⟨w1.heap.size + 1, 4, none⟩ = some (.map (some (S' x.f0))) := by
       have m2 := HI2.out.mac x.f0 HMX.out
       rw [HB2.out] at m2
       exact (blk_cell m2 4).trans rfl
      go_still_tail 6, (by kernel_rfl)
      refine store_seq HI2.out.drew (by omega) rfl _ _ _ rfl x.f0 HMX.out rfl x.f1 HWs.out rfl rfl ?_
      intro w3 hm3 hg3
      clear d0 d1 d2 d3 d4 d5 d6 e4
      have m3 := Aside0.mk (mac_seq HI2.out.drew HMX.out hg3)
      rw [HB2.out] at m3
      have X3 := Aside0.mk (box_seq HI2.out.drew HMX.out (blk_drew X2.out) hg3)
      obtain ⟨d0, d1, d2, d3, d4, d5, d6⟩ := box_cells X3.out
      have HM3 := Aside0.mk hm3
      have HG3 := Aside0.mk hg3
      clear hm3 hg3
      go_wp2
      go_still_tail 24, (by kernel_rfl)
      go_wp2_with (go_at_call 36; refine (grow_any w3.heap.size (w1.heap.size + 1) (S' x.f0) _ _ _ _ x.f3 x.f4 x.f5 x.f1 _ (blk_drew (blk_new _ _)) (blk_drew (blk_alloc m3.out _))).mono ?_; rintro e w4 ⟨rfl, hg4, h4⟩; rw [← HB2.out] at hg4 h4; have HU := Aside0.mk (HI2.out.drew.upd x HMX.out HM3.out HG3.out (World.grownBy.trans (grown_drew (grown_alloc (World.grownBy.refl w3 _) _)) hg4) h4); clear hg4 h4)
      go_roundw
      case rel => exact ⟨i + 1, D', B', S', K ++ [x.f0], by go_num, by omega, ⟨by rw [filt_yes HT.out HACC.out]; exact HU.out.more (by omega)⟩, ⟨by rw [filt_yes HT.out HACC.out]; exact macs_new HK.out HMK.out⟩⟩
      case measure => simp [intOf]; omega
    ·have hqb : (q != 0) = true := bne_iff_ne.2 hq0
     have HQ0 := Aside0.mk hq0
     clear hq0
     go_wp2_with (go_at_call 17; refine (field_Right.calls k A0 c0 l0 x.f0 x.f1 x.f2 x.f3 x.f4 x.f5 x.f6 q _ (Kd.C_below HR0.out HB0.out) HC0.out HQ.out).mono ?_; rintro e w1 ⟨rfl, hb⟩)
     go_roundw
     case rel => exact ⟨i + 1, D, B, S, K, by go_num, by omega, ⟨by rw [filt_no HT.out (acc_not0 HQ.out HQ0.out)]; exact (HA.out.kept (grown_of_below hb none)).more (by omega)⟩, ⟨by rw [filt_no HT.out (acc_not0 HQ.out HQ0.out)]; exact HK.out⟩⟩
     case measure => simp [intOf]; omega
   ·have hpb : (x.f2 != a2) = true := bne_iff_ne.2 hp
    have HP := Aside0.mk hp
    clear hp
    go_wp2
    go_roundw
    case rel => exact ⟨i + 1, D, B, S, K, by go_num, by omega, ⟨by rw [filt_no HT.out (acc_not1 HP.out)]; exact HA.out.more (by omega)⟩, ⟨by rw [filt_no HT.out (acc_not1 HP.out)]; exact HK.out⟩⟩
    case measure => simp [intOf]; omega
  ·obtain ⟨wo, rfl⟩ : ∃ wo : World, wo = wr := ⟨_, rfl⟩
   have hi : i = l1.length := by omega
   subst hi
   have hfull : l1.take l1.length = l1 := List.take_length
   rw [hfull] at HG HK
   obtain ⟨L, hL⟩ : ∃ L, L = l1.filter (accR k l0 a2) := ⟨_, rfl⟩
   rw [← hL] at HG HK
   have HL := Aside0.mk hL
   clear hfull hij hL h1
   obtain ⟨sz, hsz⟩ : ∃ sz : Nat, sz = K.length := ⟨_, rfl⟩
   have hD : Maps.size D = sz := HG.out.size.trans hsz.symm
   have HD := Aside0.mk hD
   have HZ := Aside0.mk hsz
   clear hD hsz
   go_wp2_with (first | (at_len; refine wpList_len_own wo rfl _ 86 rfl 3 87 Try.underlying86 ptrE (w.heap.size + 1) _ D rfl HG.out.map ?_; rw [HD.out]) | (at_range; refine wpList_range_own _ rfl _ 86 rfl 3 87 (int_keyed Try.underlying3) Try.underlying86 ptrE (w.heap.size + 1) _ D rfl (HG.out.map.alloc _) ?_; intro w0 hrg0 hg0 hs0; have hsA := World.size_alloc wo (.cells #[.int .i64 a2, .int .i64 sz, .int .i64 0, .int .i64 0, .int .i64 0, .int .i64 0] 40); rw [hsA] at hrg0 ⊢; clear hsA hs0; have HRG0 := Aside0.mk hrg0; have HG0 := Aside0.mk hg0; clear hrg0 hg0))
   go_frame
   have hbd := fun c hc => (acc_bounds (List.mem_filter.1 (HL.out ▸ hc : c ∈ l1.filter (accR k l0 a2))).2).1
   have hLn : L.length ≤ 1000 := by rw [HL.out]; exact Nat.le_trans (List.length_filter_le _ _) hl1
   have HBD := Aside0.mk hbd
   have HLN := Aside0.mk hLn
   clear hbd hLn
   go_loopw [14] (fun v14 w2 => ∃ (left : Lit → Bool) (cnt : Nat) (s2 s3 s4 s5 : Int), Aside0 (wo.grownBy w2 none) ∧ Aside0 (w2.ranges Try.prog 3 ptrE (w.heap.size + 1) (wo.heap.size + 1) (2 * l1.length) D left cnt) ∧ Aside0 (w2.heap[wo.heap.size]? = some (.cells #[.int .i64 a2, .int .i64 sz, .int .i64 s2, .int .i64 s3, .int .i64 s4, .int .i64 s5] 40 (0, 0))) ∧ Aside0 (s2 = smL K left (seenM L) ∧ s3 = smL K left (lookM L) ∧ s4 = smL K left (brokM L) ∧ s5 = smL K left (missM L))) (fun v14 w2 => w2.rangeLeft (w.heap.size + 1) (wo.heap.size + 1))
   case atStart =>
    have hall : ∀ x ∈ K, Maps.has D (.int .i64 x) = true := fun x hx => by rw [HG.out.has]; exact decide_eq_true hx
    exact ⟨_, _, 0, 0, 0, 0, ⟨(World.grownBy_alloc _ _ _).trans HG0.out⟩, HRG0, ⟨blk_grown (blk_new _ _) HG0.out (by simp)⟩, ⟨(smL_all hall).symm, (smL_all hall).symm, (smL_all hall).symm, (smL_all hall).symm⟩⟩
   case round =>
    obtain ⟨left, cnt, s2, s3, s4, s5, HG2, HRG, HBX, HS⟩ := hrel
    have o0 : wr.cell? ⟨wo.heap.size, 0, none⟩ = some (.int .i64 a2) := (blk_cell HBX.out 0).trans rfl
    have o1 : wr.cell? ⟨wo.heap.size, 1, none⟩ = some (.int .i64 sz) := (blk_cell HBX.out 1).trans rfl
    have o2 : wr.cell? ⟨wo.heap.size, 2, none⟩ = some (.int .i64 s2) := (blk_cell HBX.out 2).trans rfl
    have o3 : wr.cell? ⟨wo.heap.size, 3, none⟩ = some (.int .i64 s3) := (blk_cell HBX.out 3).trans rfl
    have o4 : wr.cell? ⟨wo.heap.size, 4, none⟩ = some (.int .i64 s4) := (blk_cell HBX.out 4).trans rfl
    have o5 : wr.cell? ⟨wo.heap.size, 5, none⟩ = some (.int .i64 s5) := (blk_cell HBX.out 5).trans rfl
    have HZR : Aside0 (wr.heap[w.heap.size]? = some zero40) := ⟨blk_grown HG.out.box HG2.out (by simp)⟩
    have z0 : wr.cell? ⟨w.heap.size, 0, none⟩ = some (.int .i64 0) := (blk_cell HZR.out 0).trans rfl
    have z1 : wr.cell? ⟨w.heap.size, 1, none⟩ = some (.int .i64 0) := (blk_cell HZR.out 1).trans rfl
    have z2 : wr.cell? ⟨w.heap.size, 2, none⟩ = some (.int .i64 0) := (blk_cell HZR.out 2).trans rfl
    have z3 : wr.cell? ⟨w.heap.size, 3, none⟩ = some (.int .i64 0) := (blk_cell HZR.out 3).trans rfl
    have z4 : wr.cell? ⟨w.heap.size, 4, none⟩ = some (.int .i64 0) := (blk_cell HZR.out 4).trans rfl
    have z5 : wr.cell? ⟨w.heap.size, 5, none⟩ = some (.int .i64 0) := (blk_cell HZR.out 5).trans rfl
    have f0 : wr.frozen? ⟨w.heap.size, 0, none⟩ = false := blk_frozen HZR.out 0
    have f1 : wr.frozen? ⟨w.heap.size, 1, none⟩ = false := blk_frozen HZR.out 1
    have f2 : wr.frozen? ⟨w.heap.size, 2, none⟩ = false := blk_frozen HZR.out 2
    have f3 : wr.frozen? ⟨w.heap.size, 3, none⟩ = false := blk_frozen HZR.out 3
    have f4 : wr.frozen? ⟨w.heap.size, 4, none⟩ = false := blk_frozen HZR.out 4
    have f5 : wr.frozen? ⟨w.heap.size, 5, none⟩ = false := blk_frozen HZR.out 5
    go_wp2_with (at_next; refine next_mac HG.out rfl _ rfl _ left cnt rfl HRG.out ?_ ?_)
    ·intro hl0
     have HL0 := Aside0.mk hl0
     clear hl0
     go_wp2
     refine bodyPost_ret (results_cell_row rfl _ _ w.heap.size 40 #[.int .i64 a2, .int .i64 sz, .int .i64 s2, .int .i64 s3, .int .i64 s4, .int .i64 s5] (0, 0) _ rfl
      (blk_put (cs := #[.int .i64 a2, .int .i64 sz, .int .i64 s2, .int .i64 s3, .int .i64 s4, .int .i64 0]) (blk_put (cs := #[.int .i64 a2, .int .i64 sz, .int .i64 s2, .int .i64 s3, .int .i64 0, .int .i64 0]) (blk_put (cs := #[.int .i64 a2, .int .i64 sz, .int .i64 s2, .int .i64 0, .int .i64 0, .int .i64 0])
       (blk_put (cs := #[.int .i64 a2, .int .i64 sz, .int .i64 0, .int .i64 0, .int .i64 0, .int .i64 0]) (blk_put (cs := #[.int .i64 a2, .int .i64 0, .int .i64 0, .int .i64 0, .int .i64 0, .int .i64 0]) (blk_put (cs := #[.int .i64 0, .int .i64 0, .int .i64 0, .int .i64 0, .int .i64 0, .int .i64 0]) HZR.out 0 _ rfl) 1 _ rfl) 2 _ rfl) 3 _ rfl) 4 _ rfl) 5 _ rfl) Try.underlying40 rfl (by kernel_rfl)) rfl ?_
     exact ⟨⟨_, (gath_end HS.out HL0.out HK.out HZ.out).trans (by rw [HL.out]), rfl, below_six (HG.out.below.grown HG2.out (by have := HG.out.size_le; omega) (by simp)) _ _ _ _ _ _⟩⟩
    ·intro x w' cnt' hx hl hrg hlt hgr hen
     have HX := Aside0.mk hx
     have HLX := Aside0.mk hl
     have HRG' := Aside0.mk hrg
     have HLT := Aside0.mk hlt
     have HGR := Aside0.mk hgr
     clear hx hl hrg hlt hgr
     have hBx := HG.out.ltB HX.out
     have M0 : Aside0 (w'.heap[B x]? = some (mac91 (seenM L x) (lookM L x) (brokM L x) (lastM L x) (S x))) := ⟨blk_grown (blk_grown (HG.out.mac x HX.out) HG2.out (by simp)) HGR.out (by simp; omega)⟩
     have O0 := Aside0.mk (blk_grown HBX.out HGR.out (by simp))
     have hSx := HG.out.ltS HX.out
     have SS : Aside0 (w'.ownsMap Try.prog 3 (plainElem Try.prog 4) (S x) (2 * l1.length) (setE (seqsM L x))) := ⟨((HG.out.set_ x HX.out).kept HG2.out (by simp)).kept HGR.out (by simp; omega)⟩
     have HN : Aside0 (wo.heap.size ≠ B x) := ⟨by omega⟩
     have HNS : Aside0 (S x ≠ wo.heap.size) := ⟨by omega⟩
     clear hBx hSx
     have bs2 := smL_range (K := K) (left := left) (f := seenM L) (by rw [HK.out]; exact Nat.le_trans (length_nub_le _) (by rw [List.length_map]; exact HLN.out)) (fun y => by have := seenM_bd HBD.out y; omega)
     have bs3 := smL_range (K := K) (left := left) (f := lookM L) (by rw [HK.out]; exact Nat.le_trans (length_nub_le _) (by rw [List.length_map]; exact HLN.out)) (fun y => by have := lookM_bd HBD.out y; omega)
     have bs4 := smL_range (K := K) (left := left) (f := brokM L) (by rw [HK.out]; exact Nat.le_trans (length_nub_le _) (by rw [List.length_map]; exact HLN.out)) (fun y => by have := brokM_bd HBD.out y; omega)
     have bs5 := smL_range (K := K) (left := left) (f := missM L) (by rw [HK.out]; exact Nat.le_trans (length_nub_le _) (by rw [List.length_map]; exact HLN.out)) (fun y => by have := missM_bd HBD.out HLN.out y; omega)
     rw [← HS.out.1] at bs2
     rw [← HS.out.2.1] at bs3
     rw [← HS.out.2.2.1] at bs4
     rw [← HS.out.2.2.2] at bs5
     obtain ⟨v2, hv2⟩ : ∃ v, v = seenM L x := ⟨_, rfl⟩
     obtain ⟨v3, hv3⟩ : ∃ v, v = lookM L x := ⟨_, rfl⟩
     obtain ⟨v4, hv4⟩ : ∃ v, v = brokM L x := ⟨_, rfl⟩
     obtain ⟨v5, hv5⟩ : ∃ v, v = lastM L x := ⟨_, rfl⟩
     have bv2 := seenM_bd HBD.out x
     have bv3 := lookM_bd HBD.out x
     have bv4 := brokM_bd HBD.out x
     have bv5 := lastM_bd HBD.out x
     rw [← hv2] at bv2 M0
     rw [← hv3] at bv3 M0
     rw [← hv4] at bv4 M0
     rw [← hv5] at bv5 M0
     have V2 := Aside0.mk hv2
     have V3 := Aside0.mk hv3
     have V4 := Aside0.mk hv4
     have V5 := Aside0.mk hv5
     clear hv2 hv3 hv4 hv5
     obtain ⟨bs2a, bs2b⟩ := bs2
     obtain ⟨bs3a, bs3b⟩ := bs3
     obtain ⟨bs4a, bs4b⟩ := bs4
     obtain ⟨bs5a, bs5b⟩ := bs5
     obtain ⟨bv2a, bv2b⟩ := bv2
     obtain ⟨bv3a, bv3b⟩ := bv3
     obtain ⟨bv4a, bv4b⟩ := bv4
     obtain ⟨bv5a, bv5b⟩ := bv5
     clear o0 o1 o2 o3 o4 o5 z0 z1 z2 z3 z4 z5 f0 f1 f2 f3 f4 f5
     go_wp2
     have o1 : w'.cell? ⟨wo.heap.size, 2, none⟩ = some (.int .i64 s2) := (blk_cell O0.out 2).trans rfl
     have m1 : w'.cell? ⟨B x, 0, none⟩ = some (.int .i64 v2) := (blk_cell M0.out 0).trans rfl
     have f1 : w'.frozen? ⟨wo.heap.size, 2, none⟩ = false := blk_frozen O0.out 2
     go_still_tail 8, (by kernel_rfl)
     go_wp2
     clear o1 m1 f1
     obtain ⟨W1, hW1⟩ : ∃ W_ : World, W_ = (World.setCell w' ⟨wo.heap.size, 2, none⟩ (.int .i64 (s2 + v2))).drew := ⟨_, rfl⟩
     rw [← hW1]
     have O1 : Aside0 (W1.heap[wo.heap.size]? = some (.cells #[.int .i64 a2, .int .i64 sz, .int .i64 (s2 + v2), .int .i64 s3, .int .i64 s4, .int .i64 s5] 40 (0, 0))) := ⟨by rw [hW1]; exact blk_drew (blk_put (cs := #[.int .i64 a2, .int .i64 sz, .int .i64 s2, .int .i64 s3, .int .i64 s4, .int .i64 s5]) O0.out 2 _ rfl)⟩
     have M1 : Aside0 (W1.heap[B x]? = some (mac91 v2 v3 v4 v5 (S x))) := ⟨by rw [hW1]; exact blk_drew (blk_far M0.out (p := ⟨wo.heap.size, 2, none⟩) HN.out.symm _)⟩
     have G1 : Aside0 (World.grownBy w' W1 (some wo.heap.size)) := ⟨by rw [hW1]; exact grown_drew (grown_set (World.grownBy.refl _ _) 2 _)⟩
     clear hW1
     have o1 : W1.cell? ⟨wo.heap.size, 3, none⟩ = some (.int .i64 s3) := (blk_cell O1.out 3).trans rfl
     have m1 : W1.cell? ⟨B x, 1, none⟩ = some (.int .i64 v3) := (blk_cell M1.out 1).trans rfl
     have f1 : W1.frozen? ⟨wo.heap.size, 3, none⟩ = false := blk_frozen O1.out 3
     go_still_tail 8, (by kernel_rfl)
     go_wp2
     clear o1 m1 f1
     obtain ⟨W2, hW2⟩ : ∃ W_ : World, W_ = (World.setCell W1 ⟨wo.heap.size, 3, none⟩ (.int .i64 (s3 + v3))).drew := ⟨_, rfl⟩
     rw [← hW2]
     have O2 : Aside0 (W2.heap[wo.heap.size]? = some (.cells #[.int .i64 a2, .int .i64 sz, .int .i64 (s2 + v2), .int .i64 (s3 + v3), .int .i64 s4, .int .i64 s5] 40 (0, 0))) := ⟨by rw [hW2]; exact blk_drew (blk_put (cs := #[.int .i64 a2, .int .i64 sz, .int .i64 (s2 + v2), .int .i64 s3, .int .i64 s4, .int .i64 s5]) O1.out 3 _ rfl)⟩
     have M2 : Aside0 (W2.heap[B x]? = some (mac91 v2 v3 v4 v5 (S x))) := ⟨by rw [hW2]; exact blk_drew (blk_far M1.out (p := ⟨wo.heap.size, 3, none⟩) HN.out.symm _)⟩
     have G2 : Aside0 (World.grownBy W1 W2 (some wo.heap.size)) := ⟨by rw [hW2]; exact grown_drew (grown_set (World.grownBy.refl _ _) 3 _)⟩
     clear hW2
     have o1 : W2.cell? ⟨wo.heap.size, 4, none⟩ = some (.int .i64 s4) := (blk_cell O2.out 4).trans rfl
     have m1 : W2.cell? ⟨B x, 2, none⟩ = some (.int .i64 v4) := (blk_cell M2.out 2).trans rfl
     have f1 : W2.frozen? ⟨wo.heap.size, 4, none⟩ = false := blk_frozen O2.out 4
     go_still_tail 8, (by kernel_rfl)
     go_wp2
     clear o1 m1 f1
     obtain ⟨W3, hW3⟩ : ∃ W_ : World, W_ = (World.setCell W2 ⟨wo.heap.size, 4, none⟩ (.int .i64 (s4 + v4))).drew := ⟨_, rfl⟩
     rw [← hW3]
     have O3 : Aside0 (W3.heap[wo.heap.size]? = some (.cells #[.int .i64 a2, .int .i64 sz, .int .i64 (s2 + v2), .int .i64 (s3 + v3), .int .i64 (s4 + v4), .int .i64 s5] 40 (0, 0))) := ⟨by rw [hW3]; exact blk_drew (blk_put (cs := #[.int .i64 a2, .int .i64 sz, .int .i64 (s2 + v2), .int .i64 (s3 + v3), .int .i64 s4, .int .i64 s5]) O2.out 4 _ rfl)⟩
     have M3 : Aside0 (W3.heap[B x]? = some (mac91 v2 v3 v4 v5 (S x))) := ⟨by rw [hW3]; exact blk_drew (blk_far M2.out (p := ⟨wo.heap.size, 4, none⟩) HN.out.symm _)⟩
     have G3 : Aside0 (World.grownBy W2 W3 (some wo.heap.size)) := ⟨by rw [hW3]; exact grown_drew (grown_set (World.grownBy.refl _ _) 4 _)⟩
     clear hW3
     have SW : Aside0 (W3.ownsMap Try.prog 3 (plainElem Try.prog 4) (S x) (2 * l1.length) (setE (seqsM L x))) := ⟨((SS.out.kept G1.out (by simpa using HNS.out)).kept G2.out (by simpa using HNS.out)).kept G3.out (by simpa using HNS.out)⟩
     obtain ⟨nq, hnq⟩ : ∃ nq : Nat, nq = (nub (seqsM L x)).length := ⟨_, rfl⟩
     have hln : ∀ ty, (Builtin.len_ #[89] ty #[.map (some (S x))]).run Try.prog W3 = .ok (.int .i64 nq) W3 := fun ty => by rw [SW.out.len Try.underlying89 ty, size_setE, hnq]
     have hln2 : ∀ ty, (Builtin.len_ #[89] ty #[.map (some (S x))]).run Try.prog W3.drew = .ok (.int .i64 nq) W3.drew := fun ty => by rw [(SW.out.drew).len Try.underlying89 ty, size_setE, hnq]
     have hnq1 : nq ≤ 1000 := by rw [hnq]; exact Nat.le_trans (seqs_le L x) HLN.out
     have NQ := Aside0.mk hnq
     clear hnq
     have o1 : W3.cell? ⟨wo.heap.size, 5, none⟩ = some (.int .i64 s5) := (blk_cell O3.out 5).trans rfl
     have m1 : W3.cell? ⟨B x, 3, none⟩ = some (.int .i64 v5) := (blk_cell M3.out 3).trans rfl
     have m2 : W3.cell? ⟨B x, 4, none⟩ = some (.map (some (S x))) := (blk_cell M3.out 4).trans rfl
     have f1 : W3.frozen? ⟨wo.heap.size, 5, none⟩ = false := blk_frozen O3.out 5
     go_still_tail 14, (by kernel_rfl)
     go_wp2
     clear o1 m1 m2 f1 hln hln2
     obtain ⟨W4, hW4⟩ : ∃ W_ : World, W_ = (World.setCell W3 ⟨wo.heap.size, 5, none⟩ (.int .i64 (s5 + (v5 - (nq : Int))))).drew := ⟨_, rfl⟩
     rw [← hW4]
     have O4 : Aside0 (W4.heap[wo.heap.size]? = some (.cells #[.int .i64 a2, .int .i64 sz, .int .i64 (s2 + v2), .int .i64 (s3 + v3), .int .i64 (s4 + v4), .int .i64 (s5 + (v5 - (nq : Int)))] 40 (0, 0))) := ⟨by rw [hW4]; exact blk_drew (blk_put (cs := #[.int .i64 a2, .int .i64 sz, .int .i64 (s2 + v2), .int .i64 (s3 + v3), .int .i64 (s4 + v4), .int .i64 s5]) O3.out 5 _ rfl)⟩
     have G4 : Aside0 (World.grownBy W3 W4 (some wo.heap.size)) := ⟨by rw [hW4]; exact grown_drew (grown_set (World.grownBy.refl _ _) 5 _)⟩
     clear hW4
     have hr : ∀ j, some (wo.heap.size + 1) = some j → wo.heap.size ≤ j ∨ (none : Option Nat) = some j := fun j e => by injection e with e; omega
     have hq : ∀ j, some wo.heap.size = some j → wo.heap.size ≤ j ∨ (none : Option Nat) = some j := fun j e => by injection e with e; omega
     have GA : Aside0 (wo.grownBy W4 none) := ⟨((((HG2.out.andThen HGR.out hr).andThen G1.out hq).andThen G2.out hq).andThen G3.out hq).andThen G4.out hq⟩
     have hn1 : some (w.heap.size + 1) ≠ some wo.heap.size := by have := HG.out.size_le; simp; omega
     have hn2 : some (wo.heap.size + 1) ≠ some wo.heap.size := by simp
     have RA : Aside0 (W4.ranges Try.prog 3 ptrE (w.heap.size + 1) (wo.heap.size + 1) (2 * l1.length) D (fun z => left z && !z.sameKey (.int .i64 x)) cnt') := ⟨(((HRG'.out.kept G1.out hn1 hn2).kept G2.out hn1 hn2).kept G3.out hn1 hn2).kept G4.out hn1 hn2⟩
     clear hr hq hn1 hn2
     have hnd : K.Nodup := by rw [HK.out]; exact nodup_nub _
     have e5 : v5 - (nq : Int) = missM L x := by rw [V5.out, NQ.out]; rfl
     have SA : Aside0 (s2 + v2 = smL K (fun z => left z && !z.sameKey (.int .i64 x)) (seenM L) ∧ s3 + v3 = smL K (fun z => left z && !z.sameKey (.int .i64 x)) (lookM L) ∧ s4 + v4 = smL K (fun z => left z && !z.sameKey (.int .i64 x)) (brokM L) ∧ s5 + (v5 - (nq : Int)) = smL K (fun z => left z && !z.sameKey (.int .i64 x)) (missM L)) :=
      ⟨by rw [smL_step hnd _ HX.out HLX.out, ← HS.out.1, V2.out], by rw [smL_step hnd _ HX.out HLX.out, ← HS.out.2.1, V3.out], by rw [smL_step hnd _ HX.out HLX.out, ← HS.out.2.2.1, V4.out], by rw [smL_step hnd _ HX.out HLX.out, ← HS.out.2.2.2, e5]⟩
     clear hnd e5
     go_roundw
     case rel => exact ⟨_, cnt', s2 + v2, s3 + v3, s4 + v4, s5 + (v5 - (nq : Int)), GA, RA, O4, SA⟩
     case measure => rw [RA.out.left_eq, HRG.out.left_eq]; exact HLT.out
set_option maxHeartbeats 1000000 in
theorem field_Gather.calls (k : Nat) (A0 : Option Addr) (c0 : Nat) (l0 : List Int) (A1 : Option Addr) (c1 : Nat) (l1 : List (S28)) (a2 : Int) (r1 : Int) (r2 : Int) (r3 : Int) (r4 : Int) (r5 : Int) (r6 : Int) (w : World) (hr0 : Kd.C (Kd.int .u64) w A0 l0.length l0) (hc0 : l0.length ≤ c0) (hr1 : Kd.C k28 w A1 l1.length l1) (hc1 : l1.length ≤ c1) (h : field_Gather.f k l0 l1 a2 = some (r1, r2, r3, r4, r5, r6)) :
  Calls Try.prog 19 #[.slice A0 l0.length c0, .slice A1 l1.length c1, .int .i64 a2] w fun e w' => e = .returned (.agg #[.int .i64 r1, .int .i64 r2, .int .i64 r3, .int .i64 r4, .int .i64 r5, .int .i64 r6]) ∧ Below w.heap.size w w' := by
 unfold field_Gather.f at h
 split at h
 case isFalse => cases h
 rename_i hc
 obtain ⟨h1, h2, h3⟩ := hc
 rw [List.all_eq_true] at h3
 have hr := Option.some.inj h
 refine (gather_any k A0 c0 l0 A1 c1 l1 a2 w hr0 hc0 hr1 hc1 h1 h2 (fun c hc hp => ?_)).mono fun e w' hpost => ?_
 ·have := h3 c hc
  rw [Bool.or_eq_true] at this
  rcases this with this | this
  ·exact absurd hp (bne_iff_ne.1 this)
  ·exact Option.isSome_iff_exists.1 this
 ·obtain ⟨r, hr', he, hb⟩ := hpost.out
  rw [hr] at hr'
  subst hr'
  exact ⟨he, hb⟩
end Go.Proofs.Ytfdoncgljohndaa.P

/- A part of the claim FieldBounds: lemmas, printed functions with their contracts, plain laws. -/
import Derived.Test.YtfdoncgljohndaacFieldBounds2
import Derived.StillTailTactics
set_option linter.unusedVariables false
set_option linter.unusedSimpArgs false
namespace Go.Proofs.Ytfdoncgljohndaa.P
open Go.RowKit Go.Fld Go.Maps Go.Proofs.YtfdoncgljohndaaW.PrintWords Go.Proofs.YtfdoncgljohndaaW.PrintLast Go.Proofs.YtfdoncgljohndaaW.PrintMore
theorem cells28 {w wr : World} {A : Option Addr} {l : List S28} (hr : Kd.C k28 w A l.length l) (hb : Below w.heap.size w wr) (h : Nat) (hh : h < l.length) : ∃ ad, A = some ad ∧ wr.cell? (ad.add (h * 7)) = some (.int .i64 (l.getD h z28).f0) ∧ wr.cell? ⟨(ad.add (h * 7)).block, (ad.add (h * 7)).off + 1, none⟩ = some (.int .i64 (l.getD h z28).f1) ∧ wr.cell? ⟨(ad.add (h * 7)).block, (ad.add (h * 7)).off + 2, none⟩ = some (.int .i64 (l.getD h z28).f2) ∧ wr.cell? ⟨(ad.add (h * 7)).block, (ad.add (h * 7)).off + 3, none⟩ = some (.int .i64 (l.getD h z28).f3) ∧ wr.cell? ⟨(ad.add (h * 7)).block, (ad.add (h * 7)).off + 4, none⟩ = some (.int .i64 (l.getD h z28).f4) ∧ wr.cell? ⟨(ad.add (h * 7)).block, (ad.add (h * 7)).off + 5, none⟩ = some (.int .i64 (l.getD h z28).f5) ∧ wr.cell? ⟨(ad.add (h * 7)).block, (ad.add (h * 7)).off + 6, none⟩ = some (.int .u64 (l.getD h z28).f6) := by
 obtain ⟨ad, e, h0, h1, h2, h3, h4, h5, h6⟩ := at_T28 hr (h : Int) (by omega) (by omega)
 simp only [Int.toNat_natCast, rd_T28] at h0 h1 h2 h3 h4 h5 h6
 exact ⟨ad, e, pw_cell_below hb h0, pw_cell_below hb h1, pw_cell_below hb h2, pw_cell_below hb h3, pw_cell_below hb h4, pw_cell_below hb h5, pw_cell_below hb h6⟩
def box28 (x : S28) : Obj := .cells #[.int .i64 x.f0, .int .i64 x.f1, .int .i64 x.f2, .int .i64 x.f3, .int .i64 x.f4, .int .i64 x.f5, .int .u64 x.f6] 28
/-- What a report's box reads as_. -/
theorem box_cells {W : World} {g : Nat} {x : S28} (h : W.heap[g]? = some (box28 x)) : W.cell? ⟨g, 0, none⟩ = some (.int .i64 x.f0) ∧ W.cell? ⟨g, 1, none⟩ = some (.int .i64 x.f1) ∧ W.cell? ⟨g, 2, none⟩ = some (.int .i64 x.f2) ∧ W.cell? ⟨g, 3, none⟩ = some (.int .i64 x.f3) ∧ W.cell? ⟨g, 4, none⟩ = some (.int .i64 x.f4) ∧ W.cell? ⟨g, 5, none⟩ = some (.int .i64 x.f5) ∧ W.cell? ⟨g, 6, none⟩ = some (.int .u64 x.f6) :=
 ⟨(blk_cell h 0).trans rfl, (blk_cell h 1).trans rfl, (blk_cell h 2).trans rfl, (blk_cell h 3).trans rfl, (blk_cell h 4).trans rfl, (blk_cell h 5).trans rfl, (blk_cell h 6).trans rfl⟩
theorem box_seq {w wr w3 : World} {D : DataW Nat} {B S : Int → Nat} {K : List Int} {L : List S28} {n g : Nat} {x : S28} {k : Int} (h : GI w wr D B S K L n) (hk : k ∈ K) (hb : wr.heap[g]? = some (box28 x)) (hg : wr.grownBy w3 (some (S k))) : w3.heap[g]? = some (box28 x) := by
 refine blk_grown hb hg ?_
 intro e
 injection e with e
 subst e
 obtain ⟨es, cl, hs, _⟩ := h.set_ k hk
 rw [hs] at hb
 cases hb
theorem mac_seq {w wr w3 : World} {D : DataW Nat} {B S : Int → Nat} {K : List Int} {L : List S28} {n : Nat} {k : Int} (h : GI w wr D B S K L n) (hk : k ∈ K) (hg : wr.grownBy w3 (some (S k))) : w3.heap[B k]? = some (mac91 (seenM L k) (lookM L k) (brokM L k) (lastM L k) (S k)) :=
 blk_grown (h.mac k hk) hg (fun e => h.ne hk hk (by injection e))
theorem macs_snoc (L : List S28) (c : S28) : macs (L ++ [c]) = if c.f0 ∈ macs L then macs L else macs L ++ [c.f0] := by
 unfold macs
 rw [List.map_append]
 exact nub_snoc _ _
theorem macs_old {K : List Int} {L : List S28} {c : S28} (h : K = macs L) (hc : c.f0 ∈ K) : K = macs (L ++ [c]) := by
 rw [macs_snoc, ← h, if_pos hc]
theorem macs_new {K : List Int} {L : List S28} {c : S28} (h : K = macs L) (hc : c.f0 ∉ K) : K ++ [c.f0] = macs (L ++ [c]) := by
 rw [macs_snoc, ← h, if_neg hc]
theorem gath_end {L : List S28} {K : List Int} {left : Lit → Bool} {a2 s2 s3 s4 s5 : Int} {sz : Nat} (hS : s2 = smL K left (seenM L) ∧ s3 = smL K left (lookM L) ∧ s4 = smL K left (brokM L) ∧ s5 = smL K left (missM L)) (hl : ∀ kl, left kl = false) (hK : K = macs L) (hZ : sz = K.length) :
  (a2, (sz : Int), s2, s3, s4, s5) = gathR L a2 := by
 obtain ⟨h2, h3, h4, h5⟩ := hS
 rw [smL_none hl, hK] at h2 h3 h4 h5
 unfold gathR
 rw [h2, h3, h4, h5, hZ, hK]
theorem below_six {w W : World} (h : Below w.heap.size w W) (u0 u1 u2 u3 u4 u5 : Value) :
  Below w.heap.size w ((((((W.setCell ⟨w.heap.size, 0, none⟩ u0).setCell ⟨w.heap.size, 1, none⟩ u1).setCell ⟨w.heap.size, 2, none⟩ u2).setCell ⟨w.heap.size, 3, none⟩ u3).setCell ⟨w.heap.size, 4, none⟩ u4).setCell ⟨w.heap.size, 5, none⟩ u5) :=
 (((((h.setCell (p := ⟨w.heap.size, 0, none⟩) (Nat.le_refl _) _).setCell (p := ⟨w.heap.size, 1, none⟩) (Nat.le_refl _) _).setCell (p := ⟨w.heap.size, 2, none⟩) (Nat.le_refl _) _).setCell (p := ⟨w.heap.size, 3, none⟩) (Nat.le_refl _) _).setCell (p := ⟨w.heap.size, 4, none⟩) (Nat.le_refl _) _).setCell (p := ⟨w.heap.size, 5, none⟩) (Nat.le_refl _) _
theorem acc_not1 {k : Nat} {keys : List Int} {p : Int} {x : S28} (h : ¬ x.f2 = p) : accR k keys p x = false := by
 unfold accR
 rw [show (x.f2 == p) = false from beq_eq_false_iff_ne.2 h]; rfl
theorem acc_not0 {k : Nat} {keys : List Int} {p : Int} {x : S28} {q : Int} (h : okR k keys x = some q) (hq : ¬ q = 0) : accR k keys p x = false := by
 unfold accR
 rw [h, show ((some q : Option Int) == some 0) = false from by simpa using hq, Bool.and_false]
theorem acc_yes {k : Nat} {keys : List Int} {p : Int} {x : S28} {q : Int} (hp : x.f2 = p) (h : okR k keys x = some q) (hq : q = 0) : accR k keys p x = true := by
 unfold accR
 subst hq
 rw [h, hp]; simp
theorem filt_no {l1 : List S28} {i : Nat} {x : S28} {f : S28 → Bool} (h : l1.take (i + 1) = l1.take i ++ [x]) (hx : f x = false) : (l1.take (i + 1)).filter f = (l1.take i).filter f := by
 rw [h, List.filter_append]; simp [hx]
theorem filt_yes {l1 : List S28} {i : Nat} {x : S28} {f : S28 → Bool} (h : l1.take (i + 1) = l1.take i ++ [x]) (hx : f x = true) : (l1.take (i + 1)).filter f = (l1.take i).filter f ++ [x] := by
 rw [h, List.filter_append]; simp [hx]
set_option maxHeartbeats 4000000 in
set_option maxRecDepth 100000 in
theorem gather_any (k : Nat) (A0 : Option Addr) (c0 : Nat) (l0 : List Int) (A1 : Option Addr) (c1 : Nat) (l1 : List (S28)) (a2 : Int) (w : World) (hr0 : Kd.C (Kd.int .u64) w A0 l0.length l0) (hc0 : l0.length ≤ c0) (hr1 : Kd.C k28 w A1 l1.length l1) (hc1 : l1.length ≤ c1)
  (hl0 : l0.length ≤ 1000000) (hl1 : l1.length ≤ 1000) (hok : ∀ c ∈ l1, c.f2 = a2 → ∃ q, okR k l0 c = some q) :
  Calls Try.prog 19 #[.slice A0 l0.length c0, .slice A1 l1.length c1, .int .i64 a2] w fun e w' => Aside0 (∃ r : Int × Int × Int × Int × Int × Int, r = gathR (l1.filter (accR k l0 a2)) a2 ∧ e = .returned (.agg #[.int .i64 r.1, .int .i64 r.2.1, .int .i64 r.2.2.1, .int .i64 r.2.2.2.1, .int .i64 r.2.2.2.2.1, .int .i64 r.2.2.2.2.2]) ∧ Below w.heap.size w w') := by
 have hu28 := Try.underlying28
 have hu40 := Try.underlying40
 have hu91 := Try.underlying91
 have hu95 := Try.underlying95
 have HR0 := Aside0.mk hr0
 have HR1 := Aside0.mk hr1
 have HC0 := Aside0.mk hc0
 have HC1 := Aside0.mk hc1
 have HO := Aside0.mk hok
 clear hr0 hr1 hc0 hc1 hok
 have hmm := @run_makeMap Try.prog
 go_enter Try.func19, Try.ntmps19
 go_wp2
 go_loopw [18] (fun vi wr => ∃ (i : Nat) (D : DataW Nat) (B S : Int → Nat) (K : List Int), vi = .int .i64 i ∧ i ≤ l1.length ∧ Aside0 (GI w wr D B S K ((l1.take i).filter (accR k l0 a2)) (2 * i)) ∧ Aside0 (K = macs ((l1.take i).filter (accR k l0 a2)))) (fun vi wr => ((l1.length : Int) - intOf vi).toNat)
 case atStart => exact ⟨0, _, _, _, _, rfl, by omega, ⟨GI.start w⟩, ⟨rfl⟩⟩
 case round =>
  obtain ⟨i, D, B, S, K, rfl, h1, HG, HK⟩ := hrel
  by_cases hij : i < l1.length
  ·obtain ⟨ad, e, k0, k1, k2, k3, k4, k5, k6⟩ := cells28 HR1.out HG.out.below i hij
   subst e
   have hget : l1.getD i z28 = l1[i] := by simp [hij]
   rw [hget] at k0 k1 k2 k3 k4 k5 k6
   have hmem : l1[i] ∈ l1 := List.getElem_mem hij
   have htake : l1.take (i + 1) = l1.take i ++ [l1[i]] := by rw [List.take_add_one]; simp [hij]
   generalize l1[i] = x at k0 k1 k2 k3 k4 k5 k6 hmem htake
   have HM := Aside0.mk hmem
   have HT := Aside0.mk htake
   clear hmem htake hget
   obtain ⟨b0, b1, b2, b3, b4, b5, b6⟩ := box_cells (blk_new wr (box28 x))
   unfold box28 at b0 b1 b2 b3 b4 b5 b6
   have HA0 := HG.out.kept (World.grownBy_alloc wr (box28 x) none)
   have HB0 := Aside0.mk HA0.below
   have HA := Aside0.mk HA0
   clear HA0
   unfold box28 at HA HB0
   by_cases hp : x.f2 = a2
   ·have hpb : (x.f2 != a2) = false := bne_eq_false_iff_eq.2 hp
    obtain ⟨q, hq⟩ := HO.out x HM.out hp
    have HQ := Aside0.mk hq
    have HP := Aside0.mk hp
    clear hp hq
    by_cases hq0 : q = 0
    ·have hqb : (q != 0) = false := bne_eq_false_iff_eq.2 hq0
     have HACC := Aside0.mk (acc_yes HP.out HQ.out hq0)
     clear hq0
     have hbd := (acc_bounds HACC.out).1
     have hWk : (Lit.int .i64 x.f0).wf = true := WalkArith.wf_i64 (by unfold okB at hbd; have := (acc_bounds HACC.out).2; omega)
     have hWs : (Lit.int .i64 x.f1).wf = true := WalkArith.wf_i64 (by unfold okB at hbd; omega)
     have HWk := Aside0.mk hWk
     have HWs := Aside0.mk hWs
     clear hbd hWk hWs
     by_cases hmk : x.f0 ∈ K
     ·have HMK := Aside0.mk hmk
      clear hmk
      go_wp2_with (first | (go_at_call 17; refine (field_Right.calls k A0 c0 l0 x.f0 x.f1 x.f2 x.f3 x.f4 x.f5 x.f6 q _ (Kd.C_below HR0.out HB0.out) HC0.out HQ.out).mono ?_; rintro e w1 ⟨rfl, hb⟩; have HA1 := Aside0.mk (HA.out.kept (grown_of_below hb none)); obtain ⟨d0, d1, d2, d3, d4, d5, d6⟩ := box_cells (x := x) (blk_below (blk_new wr (box28 x)) hb); have HBX := Aside0.mk (blk_below (blk_new wr (box28 x)) hb); clear hb b0 b1 b2 b3 b4 b5 b6 k0 k1 k2 k3 k4 k5 k6) | (at_lookup; refine lookup_old HA1.out rfl _ _ rfl rfl x.f0 HWk.out rfl HMK.out ?_))
      have hmac := HA1.out.mac x.f0 HMK.out
      have e4 : w1.cell? ⟨B x.f0, 4, none⟩ = some (.map (some (S x.f0))) := (blk_cell hmac 4).trans rfl
      have HMC := Aside0.mk hmac
      clear hmac
      go_still_tail 6, (by kernel_rfl)
      refine store_seq HA1.out.drew (by omega) rfl _ _ _ rfl x.f0 HMK.out rfl x.f1 HWs.out rfl rfl ?_
      intro w3 hm3 hg3
      have HMX := HMK
      clear d0 d1 d2 d3 d4 d5 d6
      have m3 := Aside0.mk (mac_seq HA1.out.drew HMX.out hg3)
      have X3 := Aside0.mk (box_seq HA1.out.drew HMX.out (blk_drew HBX.out) hg3)
      obtain ⟨d0, d1, d2, d3, d4, d5, d6⟩ := box_cells X3.out
      have HM3 := Aside0.mk hm3
      have HG3 := Aside0.mk hg3
      clear hm3 hg3
      go_wp2
      go_still_tail 24, (by kernel_rfl)
      go_wp2_with (go_at_call 36; refine (grow_any w3.heap.size (B x.f0) (S x.f0) _ _ _ _ x.f3 x.f4 x.f5 x.f1 _ (blk_drew (blk_new _ _)) (blk_drew (blk_alloc m3.out _))).mono ?_; rintro e w4 ⟨rfl, hg4, h4⟩; have HU := Aside0.mk (HA1.out.drew.upd x HMX.out HM3.out HG3.out (World.grownBy.trans (grown_drew (grown_alloc (World.grownBy.refl w3 _) _)) hg4) h4); clear hg4 h4)
      go_roundw
      case rel => exact ⟨i + 1, D, B, S, K, by go_num, by omega, ⟨by rw [filt_yes HT.out HACC.out]; exact HU.out.more (by omega)⟩, ⟨by rw [filt_yes HT.out HACC.out]; exact macs_old HK.out HMK.out⟩⟩
      case measure => simp [intOf]; omega
     ·have HMK := Aside0.mk hmk
      clear hmk
      go_wp2_with (first | (go_at_call 17; refine (field_Right.calls k A0 c0 l0 x.f0 x.f1 x.f2 x.f3 x.f4 x.f5 x.f6 q _ (Kd.C_below HR0.out HB0.out) HC0.out HQ.out).mono ?_; rintro e w1 ⟨rfl, hb⟩; have HA1 := Aside0.mk (HA.out.kept (grown_of_below hb none)); obtain ⟨d0, d1, d2, d3, d4, d5, d6⟩ := box_cells (x := x) (blk_below (blk_new wr (box28 x)) hb); have HBX := Aside0.mk (blk_below (blk_new wr (box28 x)) hb); clear hb b0 b1 b2 b3 b4 b5 b6 k0 k1 k2 k3 k4 k5 k6) | (at_lookup; refine lookup_new HA1.out rfl _ _ rfl rfl x.f0 HWk.out rfl HMK.out ?_; have p0 : ((w1.alloc (.map #[] 0)).alloc (.cells #[.int .i64 0, .int .i64 0, .int .i64 0, .int .i64 0, .map (some w1.heap.size)] 91)).cell? ⟨wr.heap.size, 0, none⟩ = some (.int .i64 x.f0) := (box_cells (blk_alloc (blk_alloc HBX.out _) _)).1) | (at_mapUpdate; refine store_new HA1.out (by omega) rfl _ _ _ rfl rfl x.f0 HWk.out rfl rfl HMK.out ?_; intro w2 D' B' S' hGI hB' hg2; have HI2 := Aside0.mk hGI; have HB2 := Aside0.mk hB'; have HG2 := Aside0.mk hg2; clear hGI hB' hg2 p0 d0 d1 d2 d3 d4 d5 d6))
      have HMX : Aside0 (x.f0 ∈ K ++ [x.f0]) := ⟨by simp⟩
      have X2 := Aside0.mk (blk_grown (blk_alloc (blk_alloc HBX.out (.map #[] 0)) (mac91 0 0 0 0 w1.heap.size)) HG2.out (fun e => by have := HG.out.size_le; injection e with e; omega))
      obtain ⟨d0, d1, d2, d3, d4, d5, d6⟩ := box_cells X2.out
      have e4 : w2.cell? ⟨w1.heap.size + 1, 4, none⟩ = some (.map (some (S' x.f0))) := by
       have m2 := HI2.out.mac x.f0 HMX.out
       rw [HB2.out] at m2
       exact (blk_cell m2 4).trans rfl
      go_still_tail 6, (by kernel_rfl)
      refine store_seq HI2.out.drew (by omega) rfl _ _ _ rfl x.f0 HMX.out rfl x.f1 HWs.out rfl rfl ?_
      intro w3 hm3 hg3
      clear d0 d1 d2 d3 d4 d5 d6 e4
      have m3 := Aside0.mk (mac_seq HI2.out.drew HMX.out hg3)
      rw [HB2.out] at m3
      have X3 := Aside0.mk (box_seq HI2.out.drew HMX.out (blk_drew X2.out) hg3)
      obtain ⟨d0, d1, d2, d3, d4, d5, d6⟩ := box_cells X3.out
      have HM3 := Aside0.mk hm3
      have HG3 := Aside0.mk hg3
      clear hm3 hg3
      go_wp2
      go_still_tail 24, (by kernel_rfl)
      go_wp2_with (go_at_call 36; refine (grow_any w3.heap.size (w1.heap.size + 1) (S' x.f0) _ _ _ _ x.f3 x.f4 x.f5 x.f1 _ (blk_drew (blk_new _ _)) (blk_drew (blk_alloc m3.out _))).mono ?_; rintro e w4 ⟨rfl, hg4, h4⟩; rw [← HB2.out] at hg4 h4; have HU := Aside0.mk (HI2.out.drew.upd x HMX.out HM3.out HG3.out (World.grownBy.trans (grown_drew (grown_alloc (World.grownBy.refl w3 _) _)) hg4) h4); clear hg4 h4)
      go_roundw
      case rel => exact ⟨i + 1, D', B', S', K ++ [x.f0], by go_num, by omega, ⟨by rw [filt_yes HT.out HACC.out]; exact HU.out.more (by omega)⟩, ⟨by rw [filt_yes HT.out HACC.out]; exact macs_new HK.out HMK.out⟩⟩
      case measure => simp [intOf]; omega
    ·have hqb : (q != 0) = true := bne_iff_ne.2 hq0
     have HQ0 := Aside0.mk hq0
     clear hq0
     go_wp2_with (go_at_call 17; refine (field_Right.calls k A0 c0 l0 x.f0 x.f1 x.f2 x.f3 x.f4 x.f5 x.f6 q _ (Kd.C_below HR0.out HB0.out) HC0.out HQ.out).mono ?_; rintro e w1 ⟨rfl, hb⟩)
     go_roundw
     case rel => exact ⟨i + 1, D, B, S, K, by go_num, by omega, ⟨by rw [filt_no HT.out (acc_not0 HQ.out HQ0.out)]; exact (HA.out.kept (grown_of_below hb none)).more (by omega)⟩, ⟨by rw [filt_no HT.out (acc_not0 HQ.out HQ0.out)]; exact HK.out⟩⟩
     case measure => simp [intOf]; omega
   ·have hpb : (x.f2 != a2) = true := bne_iff_ne.2 hp
    have HP := Aside0.mk hp
    clear hp
    go_wp2
    go_roundw
    case rel => exact ⟨i + 1, D, B, S, K, by go_num, by omega, ⟨by rw [filt_no HT.out (acc_not1 HP.out)]; exact HA.out.more (by omega)⟩, ⟨by rw [filt_no HT.out (acc_not1 HP.out)]; exact HK.out⟩⟩
    case measure => simp [intOf]; omega
  ·obtain ⟨wo, rfl⟩ : ∃ wo : World, wo = wr := ⟨_, rfl⟩
   have hi : i = l1.length := by omega
   subst hi
   have hfull : l1.take l1.length = l1 := List.take_length
   rw [hfull] at HG HK
   obtain ⟨L, hL⟩ : ∃ L, L = l1.filter (accR k l0 a2) := ⟨_, rfl⟩
   rw [← hL] at HG HK
   have HL := Aside0.mk hL
   clear hfull hij hL h1
   obtain ⟨sz, hsz⟩ : ∃ sz : Nat, sz = K.length := ⟨_, rfl⟩
   have hD : Maps.size D = sz := HG.out.size.trans hsz.symm
   have HD := Aside0.mk hD
   have HZ := Aside0.mk hsz
   clear hD hsz
   go_wp2_with (first | (at_len; refine wpList_len_own wo rfl _ 86 rfl 3 87 Try.underlying86 ptrE (w.heap.size + 1) _ D rfl HG.out.map ?_; rw [HD.out]) | (at_range; refine wpList_range_own _ rfl _ 86 rfl 3 87 (int_keyed Try.underlying3) Try.underlying86 ptrE (w.heap.size + 1) _ D rfl (HG.out.map.alloc _) ?_; intro w0 hrg0 hg0 hs0; have hsA := World.size_alloc wo (.cells #[.int .i64 a2, .int .i64 sz, .int .i64 0, .int .i64 0, .int .i64 0, .int .i64 0] 40); rw [hsA] at hrg0 ⊢; clear hsA hs0; have HRG0 := Aside0.mk hrg0; have HG0 := Aside0.mk hg0; clear hrg0 hg0))
   go_frame
   have hbd := fun c hc => (acc_bounds (List.mem_filter.1 (HL.out ▸ hc : c ∈ l1.filter (accR k l0 a2))).2).1
   have hLn : L.length ≤ 1000 := by rw [HL.out]; exact Nat.le_trans (List.length_filter_le _ _) hl1
   have HBD := Aside0.mk hbd
   have HLN := Aside0.mk hLn
   clear hbd hLn
   go_loopw [14] (fun v14 w2 => ∃ (left : Lit → Bool) (cnt : Nat) (s2 s3 s4 s5 : Int), Aside0 (wo.grownBy w2 none) ∧ Aside0 (w2.ranges Try.prog 3 ptrE (w.heap.size + 1) (wo.heap.size + 1) (2 * l1.length) D left cnt) ∧ Aside0 (w2.heap[wo.heap.size]? = some (.cells #[.int .i64 a2, .int .i64 sz, .int .i64 s2, .int .i64 s3, .int .i64 s4, .int .i64 s5] 40 (0, 0))) ∧ Aside0 (s2 = smL K left (seenM L) ∧ s3 = smL K left (lookM L) ∧ s4 = smL K left (brokM L) ∧ s5 = smL K left (missM L))) (fun v14 w2 => w2.rangeLeft (w.heap.size + 1) (wo.heap.size + 1))
   case atStart =>
    have hall : ∀ x ∈ K, Maps.has D (.int .i64 x) = true := fun x hx => by rw [HG.out.has]; exact decide_eq_true hx
    exact ⟨_, _, 0, 0, 0, 0, ⟨(World.grownBy_alloc _ _ _).trans HG0.out⟩, HRG0, ⟨blk_grown (blk_new _ _) HG0.out (by simp)⟩, ⟨(smL_all hall).symm, (smL_all hall).symm, (smL_all hall).symm, (smL_all hall).symm⟩⟩
   case round =>
    obtain ⟨left, cnt, s2, s3, s4, s5, HG2, HRG, HBX, HS⟩ := hrel
    have o0 : wr.cell? ⟨wo.heap.size, 0, none⟩ = some (.int .i64 a2) := (blk_cell HBX.out 0).trans rfl
    have o1 : wr.cell? ⟨wo.heap.size, 1, none⟩ = some (.int .i64 sz) := (blk_cell HBX.out 1).trans rfl
    have o2 : wr.cell? ⟨wo.heap.size, 2, none⟩ = some (.int .i64 s2) := (blk_cell HBX.out 2).trans rfl
    have o3 : wr.cell? ⟨wo.heap.size, 3, none⟩ = some (.int .i64 s3) := (blk_cell HBX.out 3).trans rfl
    have o4 : wr.cell? ⟨wo.heap.size, 4, none⟩ = some (.int .i64 s4) := (blk_cell HBX.out 4).trans rfl
    have o5 : wr.cell? ⟨wo.heap.size, 5, none⟩ = some (.int .i64 s5) := (blk_cell HBX.out 5).trans rfl
    have HZR : Aside0 (wr.heap[w.heap.size]? = some zero40) := ⟨blk_grown HG.out.box HG2.out (by simp)⟩
    have z0 : wr.cell? ⟨w.heap.size, 0, none⟩ = some (.int .i64 0) := (blk_cell HZR.out 0).trans rfl
    have z1 : wr.cell? ⟨w.heap.size, 1, none⟩ = some (.int .i64 0) := (blk_cell HZR.out 1).trans rfl
    have z2 : wr.cell? ⟨w.heap.size, 2, none⟩ = some (.int .i64 0) := (blk_cell HZR.out 2).trans rfl
    have z3 : wr.cell? ⟨w.heap.size, 3, none⟩ = some (.int .i64 0) := (blk_cell HZR.out 3).trans rfl
    have z4 : wr.cell? ⟨w.heap.size, 4, none⟩ = some (.int .i64 0) := (blk_cell HZR.out 4).trans rfl
    have z5 : wr.cell? ⟨w.heap.size, 5, none⟩ = some (.int .i64 0) := (blk_cell HZR.out 5).trans rfl
    have f0 : wr.frozen? ⟨w.heap.size, 0, none⟩ = false := blk_frozen HZR.out 0
    have f1 : wr.frozen? ⟨w.heap.size, 1, none⟩ = false := blk_frozen HZR.out 1
    have f2 : wr.frozen? ⟨w.heap.size, 2, none⟩ = false := blk_frozen HZR.out 2
    have f3 : wr.frozen? ⟨w.heap.size, 3, none⟩ = false := blk_frozen HZR.out 3
    have f4 : wr.frozen? ⟨w.heap.size, 4, none⟩ = false := blk_frozen HZR.out 4
    have f5 : wr.frozen? ⟨w.heap.size, 5, none⟩ = false := blk_frozen HZR.out 5
    go_wp2_with (at_next; refine next_mac HG.out rfl _ rfl _ left cnt rfl HRG.out ?_ ?_)
    ·intro hl0
     have HL0 := Aside0.mk hl0
     clear hl0
     go_wp2
     refine bodyPost_ret (results_cell_row rfl _ _ w.heap.size 40 #[.int .i64 a2, .int .i64 sz, .int .i64 s2, .int .i64 s3, .int .i64 s4, .int .i64 s5] (0, 0) _ rfl
      (blk_put (cs := #[.int .i64 a2, .int .i64 sz, .int .i64 s2, .int .i64 s3, .int .i64 s4, .int .i64 0]) (blk_put (cs := #[.int .i64 a2, .int .i64 sz, .int .i64 s2, .int .i64 s3, .int .i64 0, .int .i64 0]) (blk_put (cs := #[.int .i64 a2, .int .i64 sz, .int .i64 s2, .int .i64 0, .int .i64 0, .int .i64 0])
       (blk_put (cs := #[.int .i64 a2, .int .i64 sz, .int .i64 0, .int .i64 0, .int .i64 0, .int .i64 0]) (blk_put (cs := #[.int .i64 a2, .int .i64 0, .int .i64 0, .int .i64 0, .int .i64 0, .int .i64 0]) (blk_put (cs := #[.int .i64 0, .int .i64 0, .int .i64 0, .int .i64 0, .int .i64 0, .int .i64 0]) HZR.out 0 _ rfl) 1 _ rfl) 2 _ rfl) 3 _ rfl) 4 _ rfl) 5 _ rfl) Try.underlying40 rfl (by kernel_rfl)) rfl ?_
     exact ⟨⟨_, (gath_end HS.out HL0.out HK.out HZ.out).trans (by rw [HL.out]), rfl, below_six (HG.out.below.grown HG2.out (by have := HG.out.size_le; omega) (by simp)) _ _ _ _ _ _⟩⟩
    ·intro x w' cnt' hx hl hrg hlt hgr hen
     have HX := Aside0.mk hx
     have HLX := Aside0.mk hl
     have HRG' := Aside0.mk hrg
     have HLT := Aside0.mk hlt
     have HGR := Aside0.mk hgr
     clear hx hl hrg hlt hgr
     have hBx := HG.out.ltB HX.out
     have M0 : Aside0 (w'.heap[B x]? = some (mac91 (seenM L x) (lookM L x) (brokM L x) (lastM L x) (S x))) := ⟨blk_grown (blk_grown (HG.out.mac x HX.out) HG2.out (by simp)) HGR.out (by simp; omega)⟩
     have O0 := Aside0.mk (blk_grown HBX.out HGR.out (by simp))
     have hSx := HG.out.ltS HX.out
     have SS : Aside0 (w'.ownsMap Try.prog 3 (plainElem Try.prog 4) (S x) (2 * l1.length) (setE (seqsM L x))) := ⟨((HG.out.set_ x HX.out).kept HG2.out (by simp)).kept HGR.out (by simp; omega)⟩
     have HN : Aside0 (wo.heap.size ≠ B x) := ⟨by omega⟩
     have HNS : Aside0 (S x ≠ wo.heap.size) := ⟨by omega⟩
     clear hBx hSx
     have bs2 := smL_range (K := K) (left := left) (f := seenM L) (by rw [HK.out]; exact Nat.le_trans (length_nub_le _) (by rw [List.length_map]; exact HLN.out)) (fun y => by have := seenM_bd HBD.out y; omega)
     have bs3 := smL_range (K := K) (left := left) (f := lookM L) (by rw [HK.out]; exact Nat.le_trans (length_nub_le _) (by rw [List.length_map]; exact HLN.out)) (fun y => by have := lookM_bd HBD.out y; omega)
     have bs4 := smL_range (K := K) (left := left) (f := brokM L) (by rw [HK.out]; exact Nat.le_trans (length_nub_le _) (by rw [List.length_map]; exact HLN.out)) (fun y => by have := brokM_bd HBD.out y; omega)
     have bs5 := smL_range (K := K) (left := left) (f := missM L) (by rw [HK.out]; exact Nat.le_trans (length_nub_le _) (by rw [List.length_map]; exact HLN.out)) (fun y => by have := missM_bd HBD.out HLN.out y; omega)
     rw [← HS.out.1] at bs2
     rw [← HS.out.2.1] at bs3
     rw [← HS.out.2.2.1] at bs4
     rw [← HS.out.2.2.2] at bs5
     obtain ⟨v2, hv2⟩ : ∃ v, v = seenM L x := ⟨_, rfl⟩
     obtain ⟨v3, hv3⟩ : ∃ v, v = lookM L x := ⟨_, rfl⟩
     obtain ⟨v4, hv4⟩ : ∃ v, v = brokM L x := ⟨_, rfl⟩
     obtain ⟨v5, hv5⟩ : ∃ v, v = lastM L x := ⟨_, rfl⟩
     have bv2 := seenM_bd HBD.out x
     have bv3 := lookM_bd HBD.out x
     have bv4 := brokM_bd HBD.out x
     have bv5 := lastM_bd HBD.out x
     rw [← hv2] at bv2 M0
     rw [← hv3] at bv3 M0
     rw [← hv4] at bv4 M0
     rw [← hv5] at bv5 M0
     have V2 := Aside0.mk hv2
     have V3 := Aside0.mk hv3
     have V4 := Aside0.mk hv4
     have V5 := Aside0.mk hv5
     clear hv2 hv3 hv4 hv5
     obtain ⟨bs2a, bs2b⟩ := bs2
     obtain ⟨bs3a, bs3b⟩ := bs3
     obtain ⟨bs4a, bs4b⟩ := bs4
     obtain ⟨bs5a, bs5b⟩ := bs5
     obtain ⟨bv2a, bv2b⟩ := bv2
     obtain ⟨bv3a, bv3b⟩ := bv3
     obtain ⟨bv4a, bv4b⟩ := bv4
     obtain ⟨bv5a, bv5b⟩ := bv5
     clear o0 o1 o2 o3 o4 o5 z0 z1 z2 z3 z4 z5 f0 f1 f2 f3 f4 f5
     go_wp2
     have o1 : w'.cell? ⟨wo.heap.size, 2, none⟩ = some (.int .i64 s2) := (blk_cell O0.out 2).trans rfl
     have m1 : w'.cell? ⟨B x, 0, none⟩ = some (.int .i64 v2) := (blk_cell M0.out 0).trans rfl
     have f1 : w'.frozen? ⟨wo.heap.size, 2, none⟩ = false := blk_frozen O0.out 2
     go_still_tail 8, (by kernel_rfl)
     go_wp2
     clear o1 m1 f1
     obtain ⟨W1, hW1⟩ : ∃ W_ : World, W_ = (World.setCell w' ⟨wo.heap.size, 2, none⟩ (.int .i64 (s2 + v2))).drew := ⟨_, rfl⟩
     rw [← hW1]
     have O1 : Aside0 (W1.heap[wo.heap.size]? = some (.cells #[.int .i64 a2, .int .i64 sz, .int .i64 (s2 + v2), .int .i64 s3, .int .i64 s4, .int .i64 s5] 40 (0, 0))) := ⟨by rw [hW1]; exact blk_drew (blk_put (cs := #[.int .i64 a2, .int .i64 sz, .int .i64 s2, .int .i64 s3, .int .i64 s4, .int .i64 s5]) O0.out 2 _ rfl)⟩
     have M1 : Aside0 (W1.heap[B x]? = some (mac91 v2 v3 v4 v5 (S x))) := ⟨by rw [hW1]; exact blk_drew (blk_far M0.out (p := ⟨wo.heap.size, 2, none⟩) HN.out.symm _)⟩
     have G1 : Aside0 (World.grownBy w' W1 (some wo.heap.size)) := ⟨by rw [hW1]; exact grown_drew (grown_set (World.grownBy.refl _ _) 2 _)⟩
     clear hW1
     have o1 : W1.cell? ⟨wo.heap.size, 3, none⟩ = some (.int .i64 s3) := (blk_cell O1.out 3).trans rfl
     have m1 : W1.cell? ⟨B x, 1, none⟩ = some (.int .i64 v3) := (blk_cell M1.out 1).trans rfl
     have f1 : W1.frozen? ⟨wo.heap.size, 3, none⟩ = false := blk_frozen O1.out 3
     go_still_tail 8, (by kernel_rfl)
     go_wp2
     clear o1 m1 f1
     obtain ⟨W2, hW2⟩ : ∃ W_ : World, W_ = (World.setCell W1 ⟨wo.heap.size, 3, none⟩ (.int .i64 (s3 + v3))).drew := ⟨_, rfl⟩
     rw [← hW2]
     have O2 : Aside0 (W2.heap[wo.heap.size]? = some (.cells #[.int .i64 a2, .int .i64 sz, .int .i64 (s2 + v2), .int .i64 (s3 + v3), .int .i64 s4, .int .i64 s5] 40 (0, 0))) := ⟨by rw [hW2]; exact blk_drew (blk_put (cs := #[.int .i64 a2, .int .i64 sz, .int .i64 (s2 + v2), .int .i64 s3, .int .i64 s4, .int .i64 s5]) O1.out 3 _ rfl)⟩
     have M2 : Aside0 (W2.heap[B x]? = some (mac91 v2 v3 v4 v5 (S x))) := ⟨by rw [hW2]; exact blk_drew (blk_far M1.out (p := ⟨wo.heap.size, 3, none⟩) HN.out.symm _)⟩
     have G2 : Aside0 (World.grownBy W1 W2 (some wo.heap.size)) := ⟨by rw [hW2]; exact grown_drew (grown_set (World.grownBy.refl _ _) 3 _)⟩
     clear hW2
     have o1 : W2.cell? ⟨wo.heap.size, 4, none⟩ = some (.int .i64 s4) := (blk_cell O2.out 4).trans rfl
     have m1 : W2.cell? ⟨B x, 2, none⟩ = some (.int .i64 v4) := (blk_cell M2.out 2).trans rfl
     have f1 : W2.frozen? ⟨wo.heap.size, 4, none⟩ = false := blk_frozen O2.out 4
     go_still_tail 8, (by kernel_rfl)
     go_wp2
     clear o1 m1 f1
     obtain ⟨W3, hW3⟩ : ∃ W_ : World, W_ = (World.setCell W2 ⟨wo.heap.size, 4, none⟩ (.int .i64 (s4 + v4))).drew := ⟨_, rfl⟩
     rw [← hW3]
     have O3 : Aside0 (W3.heap[wo.heap.size]? = some (.cells #[.int .i64 a2, .int .i64 sz, .int .i64 (s2 + v2), .int .i64 (s3 + v3), .int .i64 (s4 + v4), .int .i64 s5] 40 (0, 0))) := ⟨by rw [hW3]; exact blk_drew (blk_put (cs := #[.int .i64 a2, .int .i64 sz, .int .i64 (s2 + v2), .int .i64 (s3 + v3), .int .i64 s4, .int .i64 s5]) O2.out 4 _ rfl)⟩
     have M3 : Aside0 (W3.heap[B x]? = some (mac91 v2 v3 v4 v5 (S x))) := ⟨by rw [hW3]; exact blk_drew (blk_far M2.out (p := ⟨wo.heap.size, 4, none⟩) HN.out.symm _)⟩
     have G3 : Aside0 (World.grownBy W2 W3 (some wo.heap.size)) := ⟨by rw [hW3]; exact grown_drew (grown_set (World.grownBy.refl _ _) 4 _)⟩
     clear hW3
     have SW : Aside0 (W3.ownsMap Try.prog 3 (plainElem Try.prog 4) (S x) (2 * l1.length) (setE (seqsM L x))) := ⟨((SS.out.kept G1.out (by simpa using HNS.out)).kept G2.out (by simpa using HNS.out)).kept G3.out (by simpa using HNS.out)⟩
     obtain ⟨nq, hnq⟩ : ∃ nq : Nat, nq = (nub (seqsM L x)).length := ⟨_, rfl⟩
     have hln : ∀ ty, (Builtin.len_ #[89] ty #[.map (some (S x))]).run Try.prog W3 = .ok (.int .i64 nq) W3 := fun ty => by rw [SW.out.len Try.underlying89 ty, size_setE, hnq]
     have hln2 : ∀ ty, (Builtin.len_ #[89] ty #[.map (some (S x))]).run Try.prog W3.drew = .ok (.int .i64 nq) W3.drew := fun ty => by rw [(SW.out.drew).len Try.underlying89 ty, size_setE, hnq]
     have hnq1 : nq ≤ 1000 := by rw [hnq]; exact Nat.le_trans (seqs_le L x) HLN.out
     have NQ := Aside0.mk hnq
     clear hnq
     have o1 : W3.cell? ⟨wo.heap.size, 5, none⟩ = some (.int .i64 s5) := (blk_cell O3.out 5).trans rfl
     have m1 : W3.cell? ⟨B x, 3, none⟩ = some (.int .i64 v5) := (blk_cell M3.out 3).trans rfl
     have m2 : W3.cell? ⟨B x, 4, none⟩ = some (.map (some (S x))) := (blk_cell M3.out 4).trans rfl
     have f1 : W3.frozen? ⟨wo.heap.size, 5, none⟩ = false := blk_frozen O3.out 5
     go_still_tail 14, (by kernel_rfl)
     go_wp2
     clear o1 m1 m2 f1 hln hln2
     obtain ⟨W4, hW4⟩ : ∃ W_ : World, W_ = (World.setCell W3 ⟨wo.heap.size, 5, none⟩ (.int .i64 (s5 + (v5 - (nq : Int))))).drew := ⟨_, rfl⟩
     rw [← hW4]
     have O4 : Aside0 (W4.heap[wo.heap.size]? = some (.cells #[.int .i64 a2, .int .i64 sz, .int .i64 (s2 + v2), .int .i64 (s3 + v3), .int .i64 (s4 + v4), .int .i64 (s5 + (v5 - (nq : Int)))] 40 (0, 0))) := ⟨by rw [hW4]; exact blk_drew (blk_put (cs := #[.int .i64 a2, .int .i64 sz, .int .i64 (s2 + v2), .int .i64 (s3 + v3), .int .i64 (s4 + v4), .int .i64 s5]) O3.out 5 _ rfl)⟩
     have G4 : Aside0 (World.grownBy W3 W4 (some wo.heap.size)) := ⟨by rw [hW4]; exact grown_drew (grown_set (World.grownBy.refl _ _) 5 _)⟩
     clear hW4
     have hr : ∀ j, some (wo.heap.size + 1) = some j → wo.heap.size ≤ j ∨ (none : Option Nat) = some j := fun j e => by injection e with e; omega
     have hq : ∀ j, some wo.heap.size = some j → wo.heap.size ≤ j ∨ (none : Option Nat) = some j := fun j e => by injection e with e; omega
     have GA : Aside0 (wo.grownBy W4 none) := ⟨((((HG2.out.andThen HGR.out hr).andThen G1.out hq).andThen G2.out hq).andThen G3.out hq).andThen G4.out hq⟩
     have hn1 : some (w.heap.size + 1) ≠ some wo.heap.size := by have := HG.out.size_le; simp; omega
     have hn2 : some (wo.heap.size + 1) ≠ some wo.heap.size := by simp
     have RA : Aside0 (W4.ranges Try.prog 3 ptrE (w.heap.size + 1) (wo.heap.size + 1) (2 * l1.length) D (fun z => left z && !z.sameKey (.int .i64 x)) cnt') := ⟨(((HRG'.out.kept G1.out hn1 hn2).kept G2.out hn1 hn2).kept G3.out hn1 hn2).kept G4.out hn1 hn2⟩
     clear hr hq hn1 hn2
     have hnd : K.Nodup := by rw [HK.out]; exact nodup_nub _
     have e5 : v5 - (nq : Int) = missM L x := by rw [V5.out, NQ.out]; rfl
     have SA : Aside0 (s2 + v2 = smL K (fun z => left z && !z.sameKey (.int .i64 x)) (seenM L) ∧ s3 + v3 = smL K (fun z => left z && !z.sameKey (.int .i64 x)) (lookM L) ∧ s4 + v4 = smL K (fun z => left z && !z.sameKey (.int .i64 x)) (brokM L) ∧ s5 + (v5 - (nq : Int)) = smL K (fun z => left z && !z.sameKey (.int .i64 x)) (missM L)) :=
      ⟨by rw [smL_step hnd _ HX.out HLX.out, ← HS.out.1, V2.out], by rw [smL_step hnd _ HX.out HLX.out, ← HS.out.2.1, V3.out], by rw [smL_step hnd _ HX.out HLX.out, ← HS.out.2.2.1, V4.out], by rw [smL_step hnd _ HX.out HLX.out, ← HS.out.2.2.2, e5]⟩
     clear hnd e5
     go_roundw
     case rel => exact ⟨_, cnt', s2 + v2, s3 + v3, s4 + v4, s5 + (v5 - (nq : Int)), GA, RA, O4, SA⟩
     case measure => rw [RA.out.left_eq, HRG.out.left_eq]; exact HLT.out
set_option maxHeartbeats 1000000 in
theorem field_Gather.calls (k : Nat) (A0 : Option Addr) (c0 : Nat) (l0 : List Int) (A1 : Option Addr) (c1 : Nat) (l1 : List (S28)) (a2 : Int) (r1 : Int) (r2 : Int) (r3 : Int) (r4 : Int) (r5 : Int) (r6 : Int) (w : World) (hr0 : Kd.C (Kd.int .u64) w A0 l0.length l0) (hc0 : l0.length ≤ c0) (hr1 : Kd.C k28 w A1 l1.length l1) (hc1 : l1.length ≤ c1) (h : field_Gather.f k l0 l1 a2 = some (r1, r2, r3, r4, r5, r6)) :
  Calls Try.prog 19 #[.slice A0 l0.length c0, .slice A1 l1.length c1, .int .i64 a2] w fun e w' => e = .returned (.agg #[.int .i64 r1, .int .i64 r2, .int .i64 r3, .int .i64 r4, .int .i64 r5, .int .i64 r6]) ∧ Below w.heap.size w w' := by
 unfold field_Gather.f at h
 split at h
 case isFalse => cases h
 rename_i hc
 obtain ⟨h1, h2, h3⟩ := hc
 rw [List.all_eq_true] at h3
 have hr := Option.some.inj h
 refine (gather_any k A0 c0 l0 A1 c1 l1 a2 w hr0 hc0 hr1 hc1 h1 h2 (fun c hc hp => ?_)).mono fun e w' hpost => ?_
 ·have := h3 c hc
  rw [Bool.or_eq_true] at this
  rcases this with this | this
  ·exact absurd hp (bne_iff_ne.1 this)
  ·exact Option.isSome_iff_exists.1 this
 ·obtain ⟨r, hr', he, hb⟩ := hpost.out
  rw [hr] at hr'
  subst hr'
  exact ⟨he, hb⟩
end Go.Proofs.Ytfdoncgljohndaa.P

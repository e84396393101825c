/- A part of the claim FieldForged: lemmas, printed functions with their contracts, plain laws. -/
import Derived.Test.YtfdoncgljohndaacFieldForged1
import Derived.Test.YtfdoncgljohndaaProg
import Derived.Maps.Views
import Derived.Maps.RangeWalk
import Derived.Maps.OwnSet
import Derived.Maps.OwnOps
set_option linter.unusedVariables false
set_option linter.unusedSimpArgs false
namespace Go.Proofs.Ytfdoncgljohndaa.P
open Go.RowKit Go.Proofs.YtfdoncgljohndaaW.PrintWords Go.Proofs.YtfdoncgljohndaaW.PrintLast Go.Proofs.YtfdoncgljohndaaW.PrintMore
attribute [local go_sem] max2_int min2_int max_two min_two max_three min_three max_four min_four   -- for this text's walks alone
def errW : Option Int → Value
 | none => .nilIface
 | some c => .iface 0 (.int .i64 c)
theorem errW_none : errW none = .nilIface := rfl
theorem errW_some (c : Int) : errW (some c) = .iface 0 (.int .i64 c) := rfl
theorem info26 : (Try.prog.info? 26).map (fun i => (i.zero, i.size, i.bytes)) = some (some (.int .u64 0), 1, 8) := by kernel_rfl
theorem info28 : (Try.prog.info? 28).map (fun i => (i.zero, i.size, i.bytes)) = some (some (.agg #[(.int .i64 0), (.int .i64 0), (.int .i64 0), (.int .i64 0), (.int .i64 0), (.int .i64 0), (.int .u64 0)]), 7, 56) := by kernel_rfl
structure S56 where
 f0 : Int
 f1 : Int
 f2 : Int
 f3 : Int
 f4 : Int
 f5 : Int
def z56 : S56 := ⟨(0 : Int), (0 : Int), (0 : Int), (0 : Int), (0 : Int), (0 : Int)⟩
def k56 : Kd S56 := Kd.iso (Kd.pair (Kd.int .u8) (Kd.pair (Kd.int .u8) (Kd.pair (Kd.int .u8) (Kd.pair (Kd.int .u8) (Kd.pair (Kd.int .u8) (Kd.int .u8)))))) (fun x : S56 => (x.f0, x.f1, x.f2, x.f3, x.f4, x.f5))
theorem k56_open {w : World} {x : S56} {cs : List Value} (h : k56.K w x cs) : cs = [.int .u8 x.f0, .int .u8 x.f1, .int .u8 x.f2, .int .u8 x.f3, .int .u8 x.f4, .int .u8 x.f5] := by
 obtain ⟨_, _, rfl, rfl, ⟨_, _, rfl, rfl, ⟨_, _, rfl, rfl, ⟨_, _, rfl, rfl, ⟨_, _, rfl, rfl, rfl⟩⟩⟩⟩⟩ := h
 exact rfl
structure S58 where
 f0 : S56
def z58 : S58 := ⟨z56⟩
def k58 : Kd S58 := Kd.iso k56 (fun x : S58 => x.f0)
theorem k58_open {w : World} {x : S58} {cs : List Value} (h : k58.K w x cs) : cs = [.int .u8 x.f0.f0, .int .u8 x.f0.f1, .int .u8 x.f0.f2, .int .u8 x.f0.f3, .int .u8 x.f0.f4, .int .u8 x.f0.f5] := by
 have s0 := h
 obtain rfl := k56_open s0
 exact rfl
def rd_T58 (xs : List S58) (i : Int) : S58 := xs.getD i.toNat z58
theorem at_T58 {w : World} {A : Option Addr} {n : Nat} {xs : List S58} (h : Kd.C k58 w A n xs) (i : Int) (h0 : 0 ≤ i) (h1 : i < n) : ∃ ad , A = some ad ∧ w.cell? (ad.add (i.toNat * 6)) = some (.int .u8 (rd_T58 xs i).f0.f0) ∧ w.cell? ⟨(ad.add (i.toNat * 6)).block, (ad.add (i.toNat * 6)).off + 1, none⟩ = some (.int .u8 (rd_T58 xs i).f0.f1) ∧ w.cell? ⟨(ad.add (i.toNat * 6)).block, (ad.add (i.toNat * 6)).off + 2, none⟩ = some (.int .u8 (rd_T58 xs i).f0.f2) ∧ w.cell? ⟨(ad.add (i.toNat * 6)).block, (ad.add (i.toNat * 6)).off + 3, none⟩ = some (.int .u8 (rd_T58 xs i).f0.f3) ∧ w.cell? ⟨(ad.add (i.toNat * 6)).block, (ad.add (i.toNat * 6)).off + 4, none⟩ = some (.int .u8 (rd_T58 xs i).f0.f4) ∧ w.cell? ⟨(ad.add (i.toNat * 6)).block, (ad.add (i.toNat * 6)).off + 5, none⟩ = some (.int .u8 (rd_T58 xs i).f0.f5) := by
 obtain ⟨ad, c, e, _, hK, hc0⟩ := Kd.C_get h z58 i h0 h1
 have hc : ∀ j u, c[j]? = some u → w.cell? (ad.add (i.toNat * 6 + j)) = some u := hc0
 obtain rfl := k58_open hK
 exact ⟨ad, e, hc 0 _ rfl, by rw [← add_field _ _ 1 (by omega)]; exact hc 1 _ rfl, by rw [← add_field _ _ 2 (by omega)]; exact hc 2 _ rfl, by rw [← add_field _ _ 3 (by omega)]; exact hc 3 _ rfl, by rw [← add_field _ _ 4 (by omega)]; exact hc 4 _ rfl, by rw [← add_field _ _ 5 (by omega)]; exact hc 5 _ rfl⟩
structure S24 where
 f0 : Int
 f1 : (List S58)
 f2 : Int
def k24 : Kd S24 := Kd.iso (Kd.pair (Kd.int .u8) (Kd.pair (Kd.slice 58 k58) (Kd.int .u8))) (fun x : S24 => (x.f0, x.f1, x.f2))
theorem k24_open {w : World} {x : S24} {cs : List Value} (h : k24.K w x cs) : ∃ A1 c1, cs = [.int .u8 x.f0, .slice A1 x.f1.length c1, .int .u8 x.f2] ∧ x.f1.length ≤ c1 ∧ k58.C w A1 x.f1.length x.f1 := by
 obtain ⟨_, _, rfl, rfl, ⟨_, _, rfl, ⟨A1, c1, rfl, l1, g1⟩, rfl⟩⟩ := h
 exact ⟨A1, c1, rfl, l1, g1⟩
structure S28 where
 f0 : Int
 f1 : Int
 f2 : Int
 f3 : Int
 f4 : Int
 f5 : Int
 f6 : Int
def z28 : S28 := ⟨(0 : Int), (0 : Int), (0 : Int), (0 : Int), (0 : Int), (0 : Int), (0 : Int)⟩
def k28 : Kd S28 := Kd.iso (Kd.pair (Kd.int .i64) (Kd.pair (Kd.int .i64) (Kd.pair (Kd.int .i64) (Kd.pair (Kd.int .i64) (Kd.pair (Kd.int .i64) (Kd.pair (Kd.int .i64) (Kd.int .u64))))))) (fun x : S28 => (x.f0, x.f1, x.f2, x.f3, x.f4, x.f5, x.f6))
theorem k28_open {w : World} {x : S28} {cs : List Value} (h : k28.K w x cs) : cs = [.int .i64 x.f0, .int .i64 x.f1, .int .i64 x.f2, .int .i64 x.f3, .int .i64 x.f4, .int .i64 x.f5, .int .u64 x.f6] := by
 obtain ⟨_, _, rfl, rfl, ⟨_, _, rfl, rfl, ⟨_, _, rfl, rfl, ⟨_, _, rfl, rfl, ⟨_, _, rfl, rfl, ⟨_, _, rfl, rfl, rfl⟩⟩⟩⟩⟩⟩ := h
 exact rfl
theorem k28_openM {w : World} {base : Nat} {ok : Nat → Prop} {x : S28} {cs : List Value} (h : k28.M w base ok x cs) : cs = [.int .i64 x.f0, .int .i64 x.f1, .int .i64 x.f2, .int .i64 x.f3, .int .i64 x.f4, .int .i64 x.f5, .int .u64 x.f6] := by
 obtain ⟨_, _, rfl, rfl, ⟨_, _, rfl, rfl, ⟨_, _, rfl, rfl, ⟨_, _, rfl, rfl, ⟨_, _, rfl, rfl, ⟨_, _, rfl, rfl, rfl⟩⟩⟩⟩⟩⟩ := h
 exact rfl
theorem k28_mkM (w : World) (base : Nat) (ok : Nat → Prop) (x : S28)  : k28.M w base ok x [.int .i64 x.f0, .int .i64 x.f1, .int .i64 x.f2, .int .i64 x.f3, .int .i64 x.f4, .int .i64 x.f5, .int .u64 x.f6] := ⟨[.int .i64 x.f0], [.int .i64 x.f1, .int .i64 x.f2, .int .i64 x.f3, .int .i64 x.f4, .int .i64 x.f5, .int .u64 x.f6], rfl, rfl, ⟨[.int .i64 x.f1], [.int .i64 x.f2, .int .i64 x.f3, .int .i64 x.f4, .int .i64 x.f5, .int .u64 x.f6], rfl, rfl, ⟨[.int .i64 x.f2], [.int .i64 x.f3, .int .i64 x.f4, .int .i64 x.f5, .int .u64 x.f6], rfl, rfl, ⟨[.int .i64 x.f3], [.int .i64 x.f4, .int .i64 x.f5, .int .u64 x.f6], rfl, rfl, ⟨[.int .i64 x.f4], [.int .i64 x.f5, .int .u64 x.f6], rfl, rfl, ⟨[.int .i64 x.f5], [.int .u64 x.f6], rfl, rfl, rfl⟩⟩⟩⟩⟩⟩
def rd_T28 (xs : List S28) (i : Int) : S28 := xs.getD i.toNat z28
theorem at_T28 {w : World} {A : Option Addr} {n : Nat} {xs : List S28} (h : Kd.C k28 w A n xs) (i : Int) (h0 : 0 ≤ i) (h1 : i < n) : ∃ ad , A = some ad ∧ w.cell? (ad.add (i.toNat * 7)) = some (.int .i64 (rd_T28 xs i).f0) ∧ w.cell? ⟨(ad.add (i.toNat * 7)).block, (ad.add (i.toNat * 7)).off + 1, none⟩ = some (.int .i64 (rd_T28 xs i).f1) ∧ w.cell? ⟨(ad.add (i.toNat * 7)).block, (ad.add (i.toNat * 7)).off + 2, none⟩ = some (.int .i64 (rd_T28 xs i).f2) ∧ w.cell? ⟨(ad.add (i.toNat * 7)).block, (ad.add (i.toNat * 7)).off + 3, none⟩ = some (.int .i64 (rd_T28 xs i).f3) ∧ w.cell? ⟨(ad.add (i.toNat * 7)).block, (ad.add (i.toNat * 7)).off + 4, none⟩ = some (.int .i64 (rd_T28 xs i).f4) ∧ w.cell? ⟨(ad.add (i.toNat * 7)).block, (ad.add (i.toNat * 7)).off + 5, none⟩ = some (.int .i64 (rd_T28 xs i).f5) ∧ w.cell? ⟨(ad.add (i.toNat * 7)).block, (ad.add (i.toNat * 7)).off + 6, none⟩ = some (.int .u64 (rd_T28 xs i).f6) := by
 obtain ⟨ad, c, e, _, hK, hc0⟩ := Kd.C_get h z28 i h0 h1
 have hc : ∀ j u, c[j]? = some u → w.cell? (ad.add (i.toNat * 7 + j)) = some u := hc0
 obtain rfl := k28_open hK
 exact ⟨ad, e, hc 0 _ rfl, by rw [← add_field _ _ 1 (by omega)]; exact hc 1 _ rfl, by rw [← add_field _ _ 2 (by omega)]; exact hc 2 _ rfl, by rw [← add_field _ _ 3 (by omega)]; exact hc 3 _ rfl, by rw [← add_field _ _ 4 (by omega)]; exact hc 4 _ rfl, by rw [← add_field _ _ 5 (by omega)]; exact hc 5 _ rfl, by rw [← add_field _ _ 6 (by omega)]; exact hc 6 _ rfl⟩
structure S49 where
 f0 : Int
 f1 : Int
def k49 : Kd S49 := Kd.iso (Kd.pair (Kd.int .u8) (Kd.int .u8)) (fun x : S49 => (x.f0, x.f1))
theorem k49_open {w : World} {x : S49} {cs : List Value} (h : k49.K w x cs) : cs = [.int .u8 x.f0, .int .u8 x.f1] := by
 obtain ⟨_, _, rfl, rfl, rfl⟩ := h
 exact rfl
end Go.Proofs.Ytfdoncgljohndaa.P
namespace Go.Proofs.Ytfdoncgljohndaa.P
open Go.RowKit Go.Proofs.YtfdoncgljohndaaW.PrintWords Go.Proofs.YtfdoncgljohndaaW.PrintLast Go.Proofs.YtfdoncgljohndaaW.PrintMore
/-- The row itself stays what it was. -/
theorem append_keeps {P : Program} (w : World) (base : Nat) (t ty e : TypeId) (i : TypeInfo) (z : Value) (ht : P.underlying t = some (.slice e)) (hi : P.info? e = some i) (hz : i.zero = some z)
  (hzs : z.cells.size = i.size) (hsz : 0 < i.size) (v : Value) (n : Nat) (xs : List Value) (hown : w.ownsRow base e i.size v n xs)
  (a : Addr) (m c : Nat) (news : List Value) (hl : news.length = m * i.size) (hnews : ∀ j u, news[j]? = some u → w.cell? (a.add j) = some u) (h1 : ∀ u ∈ news, u.oneCell' = true)
  (h63 : n + m ≤ maxLen) (hbytes : (n + m) * i.bytes ≤ 140737488355328) (hbase : base ≤ w.heap.size) :
  ∃ v' w', (Builtin.append_ #[t, t] ty #[v, .slice (some a) m c]).run P w = .ok v' w' ∧ w'.ownsRow base e i.size v n xs := by
 rcases hown.2 with ⟨rfl, rfl⟩ | ⟨g, cap, cur, rfl, hbg, hg, hnc, hcm, hcs, htake⟩
 ·obtain ⟨v', w', hr, _⟩ := run_append_own_at (P := P) w base t ty e i z i.size i.bytes ht hi hz rfl rfl hzs hsz (.slice none 0 0) 0 xs hown a m c news hl hnews h1 h63 hbytes hbase
  exact ⟨v', w', hr, ⟨hown.1, .inl ⟨rfl, rfl⟩⟩⟩
 ·by_cases hroom : n + m ≤ cap
  ·have hfit : n * i.size + news.length ≤ cur.size := by rw [hl, hcs, ← Nat.add_mul]; exact Nat.mul_le_mul_right _ hroom
   refine ⟨_, _, run_append_room (P := P) w t ty e i ht hi g n cap cur hg a m c news hl hnews h1 hroom hfit, ⟨hown.1, .inr ⟨g, cap, _, rfl, hbg, setRow_heap w g cur _ e _ hg, hnc, hcm, ?_, ?_⟩⟩⟩
   ·simp only [List.size_toArray, List.length_append, List.length_take, List.length_drop, Array.length_toList]
    omega
   ·have hxl := hown.1
    rw [List.append_assoc]
    have h2 : (cur.toList.take (n * i.size)).length = n * i.size := by rw [List.length_take, Array.length_toList]; omega
    simp only []
    rw [List.take_append_of_le_length (by omega), List.take_of_length_le (by omega)]
    exact htake
  ·have holds : ∀ j u, xs[j]? = some u → w.cell? ((⟨g, 0, none⟩ : Addr).add j) = some u := hown.cells (g := g) rfl
   have h63' : n + m ≤ 9223372036854775807 := by simp only [maxLen] at h63; omega
   refine ⟨_, _, run_append_grow (P := P) w t ty e i z ht hi hz ⟨g, 0, none⟩ n cap xs hown.1 holds a m c news hl hnews (by omega) (by omega) (growslice_fits (by omega) hbytes), ?_⟩
   exact hown.kept (row := none) ⟨rfl, rfl, rfl, by simp, fun k hk _ => Below.heap_alloc w.drew _ k hk⟩ (.inr (by simp [Value.ownBlock]))
/-- At the operation: what a law on append tells of the outcome, and one thing more, that holds at the outcome. -/
theorem append_more {P : Program} {ops : Array Oper} {rest : List Oper} {o : Oper} {a : Act} {Q : Exit → Act → World → Prop} {W w' : World} {v' v y : Value} {facts : Value → World → Prop} {s x : Operand} {t : TypeId}
  (hgd : o.guard = none) (ho : o.op = .call { callee := .builtin .append, args := #[s, x], argTypes := #[t, t] }) (hs : a.eval s = v) (hx : a.eval x = y) (hrun : (Builtin.append_ #[t, t] o.type #[v, y]).run P W = .ok v' w')
  (bb : ∀ (Q : Exit → Act → World → Prop), (∀ v1 w1, facts v1 w1 → wpList P ops Q [] (a.put o.dst v1) w1) → wpList P ops Q [o] a W)
  (h : ∀ v1, facts v1 w' → wpList P ops Q rest (a.put o.dst v1) w') : wpList P ops Q (o :: rest) a W := by
 have hexec : ((execOp a.eval o).run P W) = .ok (.value v') w' := by
  unfold execOp
  simp only [ho, resolve, invoke, builtin, Sem.run_bind, Sem.run_pure, Result.andThen_ok, List.map_toArray, List.map_cons, List.map_nil, hs, hx, hrun]
 have key := bb (fun ex a' w'' => ex = .normal ∧ ∃ v1, a' = a.put o.dst v1 ∧ facts v1 w'') (fun v1 w1 hf => ⟨rfl, v1, rfl, hf⟩)
 have hw : Region.wanted o (yielded ops a.tmps) = true := by simp only [Region.wanted, hgd]
 unfold wpList at key
 rw [if_pos hw] at key
 rcases key with key | ⟨_, a', w'', e, _⟩
 ·unfold Oper.wp at key
  rw [hexec, Oper.upon_value] at key
  obtain ⟨_, v1, e, hf⟩ := key
  refine wpList_plain hgd fun K hK => ?_
  unfold Oper.wp
  rw [hexec, Oper.upon_value, e]
  exact hK _ _ (h v1 hf)
 ·cases e
/-- append(v, ys...) of reports, behind which v is read again. -/
theorem R_append_keep28 {P : Program} {ops : Array Oper} {rest : List Oper} {o : Oper} {a : Act} {Q : Exit → Act → World → Prop} {w0 W : World} (base : Nat) (hgd : o.guard = none) (s x : Operand) (t e : TypeId) (z : Value) (bytes : Nat)
  (ho : o.op = .call { callee := .builtin .append, args := #[s, x], argTypes := #[t, t] })
  (ht : P.underlying t = some (.slice e)) (hinfo : (P.info? e).map (fun i => (i.zero, i.size, i.bytes)) = some (some z, k28.sz, bytes)) (hz : z.cells.size = k28.sz) (hs0 : 0 < k28.sz) (hb0 : 0 < bytes)
  (v : Value) (xs ys : List S28) (A : Option Addr) (m c : Nat) (ok okp : Nat → Prop) (hs : a.eval s = v) (hx : a.eval x = .slice A m c)
  (HO : Kd.R k28 e W base ok v xs) (HR : ReadsRow (k28.K W) k28.sz W A m ys) (hKM : ∀ x cs, k28.K W x cs → k28.M W base okp x cs) (hokp : ∀ k, okp k → ok k ∧ some k ≠ v.ownBlock) (hfresh : ∀ k, W.heap.size ≤ k → ok k)
  (HB : Below base w0 W) (hbase : base ≤ W.heap.size) (hl : (xs.length + m) * bytes ≤ 140737488355328) (hm0 : 0 < ys.length)
  (h : ∀ v1 w1, Kd.R k28 e w1 base ok v1 (xs ++ ys) → Below base w0 w1 → W.grownBy w1 v.ownBlock → (v1.ownBlock = v.ownBlock ∨ ∃ b, v1.ownBlock = some b ∧ W.heap.size ≤ b) → (∃ A c, v = .slice A xs.length c ∧ xs.length ≤ c ∧ Kd.C k28 w1 A xs.length xs) → wpList P ops Q rest (a.put o.dst v1) w1) :
  wpList P ops Q (o :: rest) a W := by
 obtain ⟨i0, hi, hzz⟩ := Option.map_eq_some_iff.1 hinfo
 simp only [Prod.mk.injEq] at hzz
 obtain ⟨hz0, hz1, hz2⟩ := hzz
 have HO' := HO
 obtain ⟨hok, inner, hown, hr⟩ := HO
 have hm : ys.length = m := HR.1
 obtain ⟨ad, rfl, _⟩ := HR.2.2 (by omega)
 obtain ⟨news, hnr, hnc⟩ := ReadsRow.inner_ HR
 have hone : ∀ u ∈ news, u.oneCell' = true := by
  intro u hu
  obtain ⟨q, hq, rfl⟩ := List.mem_iff_getElem.1 hu
  have hql : q / k28.sz < ys.length := by
   rw [Nat.div_lt_iff_lt_mul hs0, ← hnr.1]
   exact hq
  have hc := hnr.2 (q / k28.sz) _ (List.getElem?_eq_getElem hql)
  refine k28.K_one hc _ ?_
  rw [List.mem_iff_getElem?]
  refine ⟨q % k28.sz, ?_⟩
  rw [List.getElem?_take, if_pos (Nat.mod_lt _ hs0), List.getElem?_drop, Nat.mul_comm, Nat.div_add_mod, List.getElem?_eq_getElem hq]
 rw [← hz1] at hown hz hs0
 have hlen : xs.length + m ≤ 140737488355328 := Nat.le_trans (Nat.le_mul_of_pos_right _ hb0) hl
 obtain ⟨v', w', hrun, hkeep⟩ := append_keeps (P := P) W base t o.type e i0 z ht hi hz0 hz hs0 v xs.length inner hown ad m c news (by rw [hnr.1, hm, hz1]) hnc hone (by simp only [maxLen]; omega) (by rw [hz2]; exact hl) hbase
 refine append_more (facts := fun v1 w1 => Kd.R k28 e w1 base ok v1 (xs ++ ys) ∧ Below base w0 w1 ∧ W.grownBy w1 v.ownBlock ∧ (v1.ownBlock = v.ownBlock ∨ ∃ b, v1.ownBlock = some b ∧ W.heap.size ≤ b)) hgd ho hs hx hrun ?_ ?_
 ·intro Q' h'
  exact Kd.R_append_rows k28 base hgd s x t e z bytes ho ht hinfo (by rw [← hz1]; exact hz) (by rw [← hz1]; exact hs0) hb0 v xs ys (some ad) m c ok okp hs hx HO' HR hKM hokp hfresh HB hbase hl (fun v1 w1 a1 a2 a3 a4 => h' v1 w1 ⟨a1, a2, a3, a4⟩)
 ·rintro v1 ⟨a1, a2, a3, a4⟩
  refine h v1 w' a1 a2 a3 a4 ?_
  rw [hz1] at hkeep
  have hr' : Reps (k28.M w' base (fun k => ok k ∧ some k ≠ v.ownBlock)) k28.sz xs inner := hr.imp_ (fun p cs hp => by
   rw [k28_openM hp]
   exact k28_mkM _ _ _ _)
  exact Kd.R_reads (d := k28) (e := e) (base := base) (ok := ok) ⟨hok, inner, hkeep, hr'⟩
end Go.Proofs.Ytfdoncgljohndaa.P
namespace Go.Proofs.Ytfdoncgljohndaa.P
open Go.Proofs.YtfdoncgljohndaaH Go.RowKit Go.Proofs.YtfdoncgljohndaaW.PrintWords Go.Proofs.YtfdoncgljohndaaW.PrintLast Go.Proofs.YtfdoncgljohndaaW.PrintMore
attribute [local go_sem] max2_int min2_int max_two min_two max_three min_three max_four min_four   -- for this text's walks alone
theorem eqA40 (d : Nat) (w : World) (x0 y0 : Int) (x1 y1 : Int) (x2 y2 : Int) (x3 y3 : Int) (x4 y4 : Int) (x5 y5 : Int) :
  (Op.equalIn (d + 2) 40 (.agg #[.int .i64 x0, .int .i64 x1, .int .i64 x2, .int .i64 x3, .int .i64 x4, .int .i64 x5]) (.agg #[.int .i64 y0, .int .i64 y1, .int .i64 y2, .int .i64 y3, .int .i64 y4, .int .i64 y5])).run Try.prog w = .ok (x0 == y0 && (x1 == y1 && (x2 == y2 && (x3 == y3 && (x4 == y4 && (x5 == y5)))))) w := by
 refine eqA_of Try.underlying40 (by kernel_rfl) ?_
 refine eqf_cons (by rfl) (by go_simp; rfl) (by go_simp; rfl) (by go_simp) ?_
 refine eqf_cons (by rfl) (by go_simp; rfl) (by go_simp; rfl) (by go_simp) ?_
 refine eqf_cons (by rfl) (by go_simp; rfl) (by go_simp; rfl) (by go_simp) ?_
 refine eqf_cons (by rfl) (by go_simp; rfl) (by go_simp; rfl) (by go_simp) ?_
 refine eqf_cons (by rfl) (by go_simp; rfl) (by go_simp; rfl) (by go_simp) ?_
 exact eqf_last (by rfl) (by go_simp; rfl) (by go_simp; rfl) (by go_simp)
end Go.Proofs.Ytfdoncgljohndaa.P
namespace Go.Proofs.Ytfdoncgljohndaa.P
open Go.Proofs.YtfdoncgljohndaaH Go.RowKit Go.Proofs.YtfdoncgljohndaaW.PrintWords Go.Proofs.YtfdoncgljohndaaW.PrintLast Go.Proofs.YtfdoncgljohndaaW.PrintMore
attribute [local go_sem] max2_int min2_int max_two min_two max_three min_three max_four min_four   -- for this text's walks alone
theorem eqA43 (d : Nat) (w : World) (x0 y0 : Int) (x1 y1 : Int) :
  (Op.equalIn (d + 2) 43 (.agg #[.int .i64 x0, .int .i64 x1]) (.agg #[.int .i64 y0, .int .i64 y1])).run Try.prog w = .ok (x0 == y0 && (x1 == y1)) w := by
 refine eqA_of Try.underlying43 (by kernel_rfl) ?_
 refine eqf_cons (by rfl) (by go_simp; rfl) (by go_simp; rfl) (by go_simp) ?_
 exact eqf_last (by rfl) (by go_simp; rfl) (by go_simp; rfl) (by go_simp)
end Go.Proofs.Ytfdoncgljohndaa.P
namespace Go.Proofs.Ytfdoncgljohndaa.P
open Go.Proofs.YtfdoncgljohndaaH Go.RowKit Go.Proofs.YtfdoncgljohndaaW.PrintWords Go.Proofs.YtfdoncgljohndaaW.PrintLast Go.Proofs.YtfdoncgljohndaaW.PrintMore
attribute [local go_sem] max2_int min2_int max_two min_two max_three min_three max_four min_four   -- for this text's walks alone
theorem eqA45 (d : Nat) (w : World) (x0 y0 : Int) (x1 y1 : Int) (x2 y2 : Int) :
  (Op.equalIn (d + 3) 45 (.agg #[.int .i64 x0, .int .i64 x1, .int .i64 x2]) (.agg #[.int .i64 y0, .int .i64 y1, .int .i64 y2])).run Try.prog w = .ok ((x0 == y0 && (x1 == y1)) && (x2 == y2)) w := by
 refine eqA_of Try.underlying45 (by kernel_rfl) ?_
 refine eqf_cons (by rfl) (by go_simp) (by go_simp) (eqA43 (d + 0) w _ _ _ _) ?_
 exact eqf_last (by rfl) (by go_simp; rfl) (by go_simp; rfl) (by go_simp)
end Go.Proofs.Ytfdoncgljohndaa.P
namespace Go.Proofs.Ytfdoncgljohndaa.P
open Go.Proofs.YtfdoncgljohndaaH Go.RowKit Go.Proofs.YtfdoncgljohndaaW.PrintWords Go.Proofs.YtfdoncgljohndaaW.PrintLast Go.Proofs.YtfdoncgljohndaaW.PrintMore
attribute [local go_sem] max2_int min2_int max_two min_two max_three min_three max_four min_four   -- for this text's walks alone
def digest_Step.f (a0 : Int) (a1 : Int) : Option (Int) := some (Go.bits .xor .u64 (IntKind.u64.wrap ((Go.bits .xor .u64 (IntKind.u64.wrap ((Go.bits .xor .u64 a0 a1) * 11400714819323198485)) ((IntKind.u64.wrap ((Go.bits .xor .u64 a0 a1) * 11400714819323198485)) / 536870912)) * 13787848793156543929)) ((IntKind.u64.wrap ((Go.bits .xor .u64 (IntKind.u64.wrap ((Go.bits .xor .u64 a0 a1) * 11400714819323198485)) ((IntKind.u64.wrap ((Go.bits .xor .u64 a0 a1) * 11400714819323198485)) / 536870912)) * 13787848793156543929)) / 4294967296))
set_option maxHeartbeats 40000000 in
set_option maxRecDepth 100000 in
theorem digest_Step.calls (a0 : Int) (a1 : Int) (r : Int) (w : World) (h : digest_Step.f a0 a1 = some r) :
  Calls Try.prog 51 #[.int .u64 a0, .int .u64 a1] w fun e w' => e = .returned (.int .u64 r) ∧ Drawn0 w w' := by
 have H : (some (Go.bits .xor .u64 (IntKind.u64.wrap ((Go.bits .xor .u64 (IntKind.u64.wrap ((Go.bits .xor .u64 a0 a1) * 11400714819323198485)) ((IntKind.u64.wrap ((Go.bits .xor .u64 a0 a1) * 11400714819323198485)) / 536870912)) * 13787848793156543929)) ((IntKind.u64.wrap ((Go.bits .xor .u64 (IntKind.u64.wrap ((Go.bits .xor .u64 a0 a1) * 11400714819323198485)) ((IntKind.u64.wrap ((Go.bits .xor .u64 a0 a1) * 11400714819323198485)) / 536870912)) * 13787848793156543929)) / 4294967296))) = some r := h
 clear h
 obtain rfl := Option.some.inj H
 go_enter Try.func51, Try.ntmps51
 go_wp2
 go_ret
 exact ⟨by first | rfl | (simp; done) | (simp [*]; done), by repeat (first | exact Drawn0.refl _ | apply Drawn0.step)⟩
end Go.Proofs.Ytfdoncgljohndaa.P
namespace Go.Proofs.Ytfdoncgljohndaa.P
open Go.Proofs.YtfdoncgljohndaaH Go.RowKit Go.Proofs.YtfdoncgljohndaaW.PrintWords Go.Proofs.YtfdoncgljohndaaW.PrintLast Go.Proofs.YtfdoncgljohndaaW.PrintMore
attribute [local go_sem] max2_int min2_int max_two min_two max_three min_three max_four min_four   -- for this text's walks alone
def digest_Join.f (a0 : Int) (a1 : Int) : Option (Int) := (digest_Step.f 11820040416388919760 a0).bind fun t101 => ((digest_Step.f t101 a1).bind fun t102 => (some t102))
set_option maxHeartbeats 40000000 in
set_option maxRecDepth 100000 in
theorem digest_Join.calls (a0 : Int) (a1 : Int) (r : Int) (w : World) (h : digest_Join.f a0 a1 = some r) :
  Calls Try.prog 32 #[.int .u64 a0, .int .u64 a1] w fun e w' => e = .returned (.int .u64 r) ∧ Drawn0 w w' := by
 have H : ((digest_Step.f 11820040416388919760 a0).bind fun t101 => ((digest_Step.f t101 a1).bind fun t102 => (some t102))) = some r := h
 clear h; replace H := Option.bind_eq_some_iff.mp H
 obtain ⟨t101, A30, H⟩ := H
 replace H : ((digest_Step.f t101 a1).bind fun t102 => (some t102)) = some r := H
 have A3 := aM A30; clear A30; replace H := Option.bind_eq_some_iff.mp H
 obtain ⟨t102, A40, H⟩ := H
 replace H : (some t102) = some r := H
 have A4 := aM A40; clear A40
 obtain rfl := Option.some.inj H
 go_enter Try.func32, Try.ntmps32
 go_wp2_with (first | ((with_reducible refine gate_callee (f := 51) rfl ?_); refine gL (some 6) Try.func51 #[.int .u64 11820040416388919760, .int .u64 a0] ?_; (with_reducible refine (digest_Step.calls 11820040416388919760 a0 t101 _ A3.out).mono ?_); rintro e w' ⟨rfl, ⟨nd, rfl⟩⟩; refine ⟨_, rfl, ?_⟩) | ((with_reducible refine gate_callee (f := 51) rfl ?_); refine gL (some 8) Try.func51 #[.int .u64 t101, .int .u64 a1] ?_; (with_reducible refine (digest_Step.calls t101 a1 t102 _ A4.out).mono ?_); rintro e w' ⟨rfl, ⟨nd, rfl⟩⟩; refine ⟨_, rfl, ?_⟩))
 go_ret
 exact ⟨by first | rfl | (simp; done) | (simp [*]; done), by repeat (first | exact Drawn0.refl _ | apply Drawn0.step)⟩
end Go.Proofs.Ytfdoncgljohndaa.P
namespace Go.Proofs.Ytfdoncgljohndaa.P
open Go.Proofs.YtfdoncgljohndaaH Go.RowKit Go.Proofs.YtfdoncgljohndaaW.PrintWords Go.Proofs.YtfdoncgljohndaaW.PrintLast Go.Proofs.YtfdoncgljohndaaW.PrintMore
attribute [local go_sem] max2_int min2_int max_two min_two max_three min_three max_four min_four   -- for this text's walks alone
def digest_Words.l0 : Nat → Int → List Int → Int → Int → Option (Int)
 | 0, _, _, _, _ => none
 | k + 1, x3, x10, x11, x12 => if x12 < x11 then (if 0 ≤ x12 then (if x12 < (x10.length : Int) then ((digest_Step.f x3 (IntKind.u64.wrap (rd x10 x12))).bind fun t103 => (digest_Words.l0 k t103 x10 x11 (wrap64 (x12 + 1)))) else (none)) else (none)) else (some x3)
def digest_Words.f (k : Nat) (l0 : List Int) : Option (Int) := (digest_Step.f 2611923443488327891 (IntKind.u64.wrap ((l0.length : Int)))).bind fun t101 => (digest_Words.l0 k t101 l0 (l0.length : Int) 0)
set_option maxHeartbeats 40000000 in
set_option maxRecDepth 100000 in
theorem digest_Words.calls (k : Nat) (A0 : Option Addr) (c0 : Nat) (l0 : List Int) (r : Int) (w : World) (hr0 : Kd.C (Kd.int .i64) w A0 l0.length l0) (hc0 : l0.length ≤ c0) (h : digest_Words.f k l0 = some r) :
  Calls Try.prog 33 #[.slice A0 l0.length c0] w fun e w' => e = .returned (.int .u64 r) ∧ Drawn0 w w' := by
 have HR0 := aM hr0; have HC0 := aM hc0; clear hr0 hc0
 have H : ((digest_Step.f 2611923443488327891 (IntKind.u64.wrap ((l0.length : Int)))).bind fun t101 => (digest_Words.l0 k t101 l0 (l0.length : Int) 0)) = some r := h
 clear h; replace H := Option.bind_eq_some_iff.mp H
 obtain ⟨t101, A20, H⟩ := H
 replace H : (digest_Words.l0 k t101 l0 (l0.length : Int) 0) = some r := H
 have A2 := aM A20; clear A20; have H' := aM H; clear H
 go_enter Try.func33, Try.ntmps33
 go_wp2_with (first | ((with_reducible refine gate_callee (f := 51) rfl ?_); refine gL (some 9) Try.func51 #[.int .u64 2611923443488327891, .int .u64 (IntKind.u64.wrap ((l0.length : Int)))] ?_; (with_reducible refine (digest_Step.calls 2611923443488327891 (IntKind.u64.wrap ((l0.length : Int))) t101 _ A2.out).mono ?_); rintro e w' ⟨rfl, ⟨nd, rfl⟩⟩; refine ⟨_, rfl, ?_⟩))
 go_loopg [3, 12] k (fun kq v3 v12 w' => ∃ (x3_1 : Int) (x12_1 : Int), v3 = .int .u64 x3_1 ∧ v12 = .int .i64 x12_1 ∧ Aside0 (digest_Words.l0 kq x3_1 l0 (l0.length : Int) x12_1 = some r) ∧ Aside0 (kq ≤ k) ∧ Drawn0 w w')
 case atStart => exact ⟨(t101), (0), (by first | rfl | (simp; done) | (simp [*]; done)), (by first | rfl | (simp; done) | (simp [*]; done)), H', ⟨Nat.le_refl _⟩, by repeat (first | exact Drawn0.refl _ | apply Drawn0.step)⟩
 case round =>
  clear H'
  try clear p2
  obtain ⟨x3_1, x12_1, rfl, rfl, HA, HK1, ⟨m1, rfl⟩⟩ := hrel
  cases gk with
  | zero => exact absurd HA.out (by simp [digest_Words.l0])
  | succ k1 =>
   have H := HA.out; clear HA
   simp only [digest_Words.l0] at H
   by_cases c3 : x12_1 < (l0.length : Int)
   ·rw [if_pos c3] at H
    have c3b0 : decide (x12_1 < (l0.length : Int)) = true := decide_eq_true c3
    clear c3
    by_cases c4 : 0 ≤ x12_1
    ·rw [if_pos c4] at H
     have c4b0 : decide (0 ≤ x12_1) = true := decide_eq_true c4
     clear c4
     by_cases c5 : x12_1 < (l0.length : Int)
     ·rw [if_pos c5] at H
      have c5b0 : decide (x12_1 < (l0.length : Int)) = true := decide_eq_true c5
      clear c5; replace H := Option.bind_eq_some_iff.mp H
      obtain ⟨t103, A60, H⟩ := H
      replace H : (digest_Words.l0 k1 t103 l0 (l0.length : Int) (wrap64 (x12_1 + 1))) = some r := H
      have A6 := aM A60; clear A60; have H' := aM H; clear H
      have p102 : 0 ≤ (x12_1 : Int) := of_decide_eq_true (by first | (with_reducible assumption) | assumption)
      have q102 : x12_1 < (l0.length : Int) := of_decide_eq_true (by first | (with_reducible assumption) | assumption)
      obtain ⟨ad102, e102, hx102_0⟩ := Kd.at_int HR0.out x12_1 p102 q102
      cases e102
      replace p102 := eq_true p102; replace q102 := eq_true q102
      go_wp2_with (first | ((with_reducible refine gate_callee (f := 51) rfl ?_); refine gL (some 19) Try.func51 #[.int .u64 x3_1, .int .u64 (IntKind.u64.wrap (rd l0 x12_1))] ?_; (with_reducible refine (digest_Step.calls x3_1 (IntKind.u64.wrap (rd l0 x12_1)) t103 _ A6.out).mono ?_); rintro e w' ⟨rfl, ⟨nd, rfl⟩⟩; refine ⟨_, rfl, ?_⟩))
      go_roundg k1
      case measure => have := HK1.out; omega
      case rel => exact ⟨(t103), (wrap64 (x12_1 + 1)), (by first | rfl | (simp; done) | (simp [*]; done)), (by first | rfl | (simp; done) | (simp [*]; done)), H', ⟨by have := HK1.out; omega⟩, by repeat (first | exact Drawn0.refl _ | apply Drawn0.step)⟩
     ·rw [if_neg c5] at H
      exact absurd H (by simp)
    ·rw [if_neg c4] at H
     exact absurd H (by simp)
   ·rw [if_neg c3] at H
    have c3b0 : decide (x12_1 < (l0.length : Int)) = false := decide_eq_false c3
    clear c3
    obtain rfl := Option.some.inj H
    go_wp2
    go_ret
    exact ⟨by first | rfl | (simp; done) | (simp [*]; done), by repeat (first | exact Drawn0.refl _ | apply Drawn0.step)⟩
end Go.Proofs.Ytfdoncgljohndaa.P
namespace Go.Proofs.Ytfdoncgljohndaa.P
open Go.Proofs.YtfdoncgljohndaaH Go.RowKit Go.Proofs.YtfdoncgljohndaaW.PrintWords Go.Proofs.YtfdoncgljohndaaW.PrintLast Go.Proofs.YtfdoncgljohndaaW.PrintMore
attribute [local go_sem] max2_int min2_int max_two min_two max_three min_three max_four min_four   -- for this text's walks alone
def field_Tag.f (k : Nat) (a0 : Int) (a1_0 : Int) (a1_1 : Int) (a1_2 : Int) (a1_3 : Int) (a1_4 : Int) (a1_5 : Int) (a1_6 : Int) : Option (Int) := (digest_Words.f k (([a1_0, a1_1, a1_2, a1_3, a1_4, a1_5] : List Int))).bind fun t105 => ((digest_Join.f a0 t105).bind fun t106 => (some t106))
set_option maxHeartbeats 40000000 in
set_option maxRecDepth 100000 in
theorem field_Tag.calls (k : Nat) (a0 : Int) (a1_0 : Int) (a1_1 : Int) (a1_2 : Int) (a1_3 : Int) (a1_4 : Int) (a1_5 : Int) (a1_6 : Int) (r : Int) (w : World) (h : field_Tag.f k a0 a1_0 a1_1 a1_2 a1_3 a1_4 a1_5 a1_6 = some r) :
  Calls Try.prog 14 #[.int .u64 a0, .agg #[.int .i64 a1_0, .int .i64 a1_1, .int .i64 a1_2, .int .i64 a1_3, .int .i64 a1_4, .int .i64 a1_5, .int .u64 a1_6]] w fun e w' => e = .returned (.int .u64 r) ∧ Below w.heap.size w w' := by
 have hu28 := Try.underlying28; have HB := aM (Below.refl w.heap.size w)
 have H : ((digest_Words.f k (([a1_0, a1_1, a1_2, a1_3, a1_4, a1_5] : List Int))).bind fun t105 => ((digest_Join.f a0 t105).bind fun t106 => (some t106))) = some r := h
 clear h
 obtain ⟨y102, hy102⟩ : ∃ y_ : List Int, y_ = (([a1_0, a1_1, a1_2, a1_3, a1_4, a1_5] : List Int)) := ⟨_, rfl⟩
 replace H : ((digest_Words.f k y102).bind fun t105 => ((digest_Join.f a0 t105).bind fun t106 => (some t106))) = some r := by first | (rw [hy102]; with_reducible exact H) | (have H2_ := (Option.bind_some _ _).symm.trans H; rw [hy102]; with_reducible exact H2_) | (have H2_ := (Option.bind_some _ _).symm.trans H; with_reducible exact H2_) | with_reducible exact H | (rw [hy102]; exact H) | exact H
 have Ny102 := aM hy102; clear hy102; replace H := Option.bind_eq_some_iff.mp H
 obtain ⟨t105, A30, H⟩ := H
 replace H : ((digest_Join.f a0 t105).bind fun t106 => (some t106)) = some r := H
 have A3 := aM A30; clear A30; replace H := Option.bind_eq_some_iff.mp H
 obtain ⟨t106, A40, H⟩ := H
 replace H : (some t106) = some r := H
 have A4 := aM A40; clear A40
 obtain rfl := Option.some.inj H
 go_enter Try.func14, Try.ntmps14
 go_wp2_with (first | ((with_reducible refine gate_dst (N := 3) rfl ?_); refine bE (N := 3) (cs := #[.int .i64 a1_0, .int .i64 a1_1, .int .i64 a1_2, .int .i64 a1_3, .int .i64 a1_4, .int .i64 a1_5, .int .u64 a1_6]) (t := 28) ?_; intro gb101 hg w5 hbox hb; have BK101 := aM (hbox); have GW101 := gE hg HB; have GE101 := gE hg HB; replace HB := sB HB hb; clear hb hbox hg; obtain ⟨hcz6_0, hcz6_1, hcz6_2, hcz6_3, hcz6_4, hcz6_5, hcz6_6, hfz6_0, hfz6_1, hfz6_2, hfz6_3, hfz6_4, hfz6_5, hfz6_6⟩ := cZ7 BK101) | ((with_reducible refine gate_dst (N := 18) rfl ?_); refine Kd.R_lit (Kd.int .i64) _ 3 ?hg (N := 18) ?hd (xs := ([a1_0, a1_1, a1_2, a1_3, a1_4, a1_5] : List Int)) (inner := [.int .i64 a1_0, .int .i64 a1_1, .int .i64 a1_2, .int .i64 a1_3, .int .i64 a1_4, .int .i64 a1_5]) (ok := fun _ => True) (okp := fun _ => True) ?hr ?hp (fun _ hk => hk) trivial (Below.refl _ _) (Nat.le_refl _) (by simp) ?_; (case hd => rfl); (case hg => rfl); (case hr => first | (go_simp; done) | (go_simp; rfl)); (case hp => exact (Reps.one (show Kd.M (Kd.int .i64) _ _ _ a1_0 [.int .i64 a1_0] from rfl) (Reps.one (show Kd.M (Kd.int .i64) _ _ _ a1_1 [.int .i64 a1_1] from rfl) (Reps.one (show Kd.M (Kd.int .i64) _ _ _ a1_2 [.int .i64 a1_2] from rfl) (Reps.one (show Kd.M (Kd.int .i64) _ _ _ a1_3 [.int .i64 a1_3] from rfl) (Reps.one (show Kd.M (Kd.int .i64) _ _ _ a1_4 [.int .i64 a1_4] from rfl) (Reps.one (show Kd.M (Kd.int .i64) _ _ _ a1_5 [.int .i64 a1_5] from rfl) (Reps.none _ _)))))))); intro v103 w7 ho8 hb hg_ hnew_; clear hg_ hnew_; (first | rw [← Ny102.out] at ho8 | (simp only [Int.reduceToNat] at ho8; rw [← Ny102.out] at ho8)); have HO104 := rL (n := 0) ho8 HB; replace BK101 := bB BK101 hb; replace HB := sB HB hb; clear hb ho8; obtain ⟨Ao9, co9, eo9⟩ := Kd.R_slice HO104.out; subst eo9) | ((with_reducible refine gate_callee (f := 33) rfl ?_); refine gL (some 19) Try.func33 #[.slice Ao9 y102.length co9] ?_; (with_reducible refine (digest_Words.calls k _ _ y102 t105 _ ?side1 ?side2 A3.out).mono ?_); (case side1 => exact rC HO104); (case side2 => exact rN HO104); rintro e w' ⟨rfl, ⟨nd, rfl⟩⟩; refine ⟨_, rfl, ?_⟩) | ((with_reducible refine gate_callee (f := 32) rfl ?_); refine gL (some 20) Try.func32 #[.int .u64 a0, .int .u64 t105] ?_; (with_reducible refine (digest_Join.calls a0 t105 t106 _ A4.out).mono ?_); rintro e w' ⟨rfl, ⟨nd, rfl⟩⟩; refine ⟨_, rfl, ?_⟩))
 go_ret
 exact ⟨by first | rfl | (simp [errW_none, errW_some] <;> rfl) | (simp [*, errW_none, errW_some] <;> rfl), sD HB⟩
end Go.Proofs.Ytfdoncgljohndaa.P
namespace Go.Proofs.Ytfdoncgljohndaa.P
open Go.Proofs.YtfdoncgljohndaaH Go.RowKit Go.Proofs.YtfdoncgljohndaaW.PrintWords Go.Proofs.YtfdoncgljohndaaW.PrintLast Go.Proofs.YtfdoncgljohndaaW.PrintMore
attribute [local go_sem] max2_int min2_int max_two min_two max_three min_three max_four min_four   -- for this text's walks alone
attribute [local go_sem] Go.Proofs.YtfdoncgljohndaaH.cell_set_map
def field_Sign.f (k : Nat) (a0 : Int) (a1_0 : Int) (a1_1 : Int) (a1_2 : Int) (a1_3 : Int) (a1_4 : Int) (a1_5 : Int) (a1_6 : Int) : Option (Int × Int × Int × Int × Int × Int × Int) := (field_Tag.f k a0 a1_0 a1_1 a1_2 a1_3 a1_4 a1_5 a1_6).bind fun t103 => (some (a1_0, a1_1, a1_2, a1_3, a1_4, a1_5, t103))
set_option maxHeartbeats 40000000 in
set_option maxRecDepth 100000 in
theorem field_Sign.calls (k : Nat) (a0 : Int) (a1_0 : Int) (a1_1 : Int) (a1_2 : Int) (a1_3 : Int) (a1_4 : Int) (a1_5 : Int) (a1_6 : Int) (r1 : Int) (r2 : Int) (r3 : Int) (r4 : Int) (r5 : Int) (r6 : Int) (r7 : Int) (w : World) (h : field_Sign.f k a0 a1_0 a1_1 a1_2 a1_3 a1_4 a1_5 a1_6 = some (r1, r2, r3, r4, r5, r6, r7)) :
  Calls Try.prog 12 #[.int .u64 a0, .agg #[.int .i64 a1_0, .int .i64 a1_1, .int .i64 a1_2, .int .i64 a1_3, .int .i64 a1_4, .int .i64 a1_5, .int .u64 a1_6]] w fun e w' => e = .returned (.agg #[.int .i64 r1, .int .i64 r2, .int .i64 r3, .int .i64 r4, .int .i64 r5, .int .i64 r6, .int .u64 r7]) ∧ Below w.heap.size w w' := by
 have hu28 := Try.underlying28; have HB := aM (Below.refl w.heap.size w)
 have H : ((field_Tag.f k a0 a1_0 a1_1 a1_2 a1_3 a1_4 a1_5 a1_6).bind fun t103 => (some (a1_0, a1_1, a1_2, a1_3, a1_4, a1_5, t103))) = some (r1, r2, r3, r4, r5, r6, r7) := h
 clear h; replace H := Option.bind_eq_some_iff.mp H
 obtain ⟨t103, A30, H⟩ := H
 replace H : (some (a1_0, a1_1, a1_2, a1_3, a1_4, a1_5, t103)) = some (r1, r2, r3, r4, r5, r6, r7) := H
 have A3 := aM A30; clear A30
 simp only [Option.some.injEq, Prod.mk.injEq] at H
 obtain ⟨rfl, rfl, rfl, rfl, rfl, rfl, rfl⟩ := H
 go_enter Try.func12, Try.ntmps12
 go_wp2_with (first | ((with_reducible refine gate_dst (N := 3) rfl ?_); refine bE (N := 3) (cs := #[.int .i64 a1_0, .int .i64 a1_1, .int .i64 a1_2, .int .i64 a1_3, .int .i64 a1_4, .int .i64 a1_5, .int .u64 a1_6]) (t := 28) ?_; intro gb101 hg w4 hbox hb; have BK101 := aM (hbox); have GW101 := gE hg HB; have GE101 := gE hg HB; replace HB := sB HB hb; clear hb hbox hg) | ((with_reducible refine gate_dst (N := 4) rfl ?_); refine bE (N := 4) (cs := #[.int .i64 0, .int .i64 0, .int .i64 0, .int .i64 0, .int .i64 0, .int .i64 0, .int .u64 0]) (t := 28) ?_; intro gb102 hg w5 hbox hb; have BK102 := aM (hbox); have GW102 := gE hg HB; have GE102 := gE hg HB; have NB101_102 := nL hg BK101; replace BK101 := bB BK101 hb; replace HB := sB HB hb; clear hb hbox hg; have hnb6 := NB101_102.out; have hnc6 := NB101_102.out.symm; obtain ⟨hcz7_0, hcz7_1, hcz7_2, hcz7_3, hcz7_4, hcz7_5, hcz7_6, hfz7_0, hfz7_1, hfz7_2, hfz7_3, hfz7_4, hfz7_5, hfz7_6⟩ := cZ7 BK101) | ((with_reducible refine gate_callee (f := 14) rfl ?_); refine gL (some 7) Try.func14 #[.int .u64 a0, .agg #[.int .i64 a1_0, .int .i64 a1_1, .int .i64 a1_2, .int .i64 a1_3, .int .i64 a1_4, .int .i64 a1_5, .int .u64 a1_6]] ?_; (with_reducible refine (field_Tag.calls k a0 a1_0 a1_1 a1_2 a1_3 a1_4 a1_5 a1_6 t103 _ A3.out).mono ?_); rintro e w8 ⟨rfl, hb⟩; refine ⟨_, rfl, ?_⟩; replace BK101 := bB BK101 hb; replace BK102 := bB BK102 hb; replace HB := sB HB hb; (try clear hb); obtain ⟨hcz9_0, hcz9_1, hcz9_2, hcz9_3, hcz9_4, hcz9_5, hcz9_6, hfz9_0, hfz9_1, hfz9_2, hfz9_3, hfz9_4, hfz9_5, hfz9_6⟩ := cZ7 BK101; obtain ⟨hcz10_0, hcz10_1, hcz10_2, hcz10_3, hcz10_4, hcz10_5, hcz10_6, hfz10_0, hfz10_1, hfz10_2, hfz10_3, hfz10_4, hfz10_5, hfz10_6⟩ := cZ7 BK102))
 refine bodyPost_ret (results_cell_row rfl _ _ gb102 28 #[.int .i64 a1_0, .int .i64 a1_1, .int .i64 a1_2, .int .i64 a1_3, .int .i64 a1_4, .int .i64 a1_5, .int .u64 t103] (0, 0) _ rfl (by refine bM ?_; refine blk_put (cs := #[.int .i64 a1_0, .int .i64 a1_1, .int .i64 a1_2, .int .i64 a1_3, .int .i64 a1_4, .int .i64 a1_5, .int .u64 0]) ?_ 6 _ rfl; refine bM ?_; refine blk_put (cs := #[.int .i64 a1_0, .int .i64 a1_1, .int .i64 a1_2, .int .i64 a1_3, .int .i64 a1_4, .int .i64 0, .int .u64 0]) ?_ 5 _ rfl; refine bM ?_; refine blk_put (cs := #[.int .i64 a1_0, .int .i64 a1_1, .int .i64 a1_2, .int .i64 a1_3, .int .i64 0, .int .i64 0, .int .u64 0]) ?_ 4 _ rfl; refine bM ?_; refine blk_put (cs := #[.int .i64 a1_0, .int .i64 a1_1, .int .i64 a1_2, .int .i64 0, .int .i64 0, .int .i64 0, .int .u64 0]) ?_ 3 _ rfl; refine bM ?_; refine blk_put (cs := #[.int .i64 a1_0, .int .i64 a1_1, .int .i64 0, .int .i64 0, .int .i64 0, .int .i64 0, .int .u64 0]) ?_ 2 _ rfl; refine bM ?_; refine blk_put (cs := #[.int .i64 a1_0, .int .i64 0, .int .i64 0, .int .i64 0, .int .i64 0, .int .i64 0, .int .u64 0]) ?_ 1 _ rfl; refine bM ?_; refine blk_put (cs := #[.int .i64 0, .int .i64 0, .int .i64 0, .int .i64 0, .int .i64 0, .int .i64 0, .int .u64 0]) ?_ 0 _ rfl; refine bM ?_; refine blk_far ?_ NB101_102.out.symm _; exact bD BK102) Try.underlying28 rfl (by kernel_rfl)) rfl ?_
 exact ⟨by first | rfl | (simp [errW_none, errW_some] <;> rfl) | (simp [*, errW_none, errW_some] <;> rfl), sD HB⟩
end Go.Proofs.Ytfdoncgljohndaa.P
namespace Go.Proofs.Ytfdoncgljohndaa.P
open Go.Proofs.YtfdoncgljohndaaH Go.RowKit Go.Proofs.YtfdoncgljohndaaW.PrintWords Go.Proofs.YtfdoncgljohndaaW.PrintLast Go.Proofs.YtfdoncgljohndaaW.PrintMore
attribute [local go_sem] max2_int min2_int max_two min_two max_three min_three max_four min_four   -- for this text's walks alone
mutual
def field_Right.j0 : Nat → List Int → Bool → Int → Int → Int → Int → Int → Int → Int → Option (Int)
 | 0, _, _, _, _, _, _, _, _, _ => none
 | k + 1, x0, x5, x102000, x102001, x102002, x102003, x102004, x102005, x102006 => if x5 = true then (field_Right.j1 k x0 x5 x102000 x102001 x102002 x102003 x102004 x102005 x102006) else (if x102001 < 1 then (field_Right.j1 k x0 true x102000 x102001 x102002 x102003 x102004 x102005 x102006) else (field_Right.j1 k x0 (decide (x102001 > 1073741824)) x102000 x102001 x102002 x102003 x102004 x102005 x102006))
def field_Right.j1 : Nat → List Int → Bool → Int → Int → Int → Int → Int → Int → Int → Option (Int)
 | 0, _, _, _, _, _, _, _, _, _ => none
 | k + 1, x0, x5, x102000, x102001, x102002, x102003, x102004, x102005, x102006 => if x5 = true then (some 320) else (if x102005 < 0 then (field_Right.j2 k x0 true x102000 x102001 x102002 x102003 x102004 x102005 x102006) else (if x102004 < x102005 then (field_Right.j2 k x0 true x102000 x102001 x102002 x102003 x102004 x102005 x102006) else (if x102003 < x102004 then (field_Right.j2 k x0 true x102000 x102001 x102002 x102003 x102004 x102005 x102006) else (field_Right.j2 k x0 (decide (x102003 > 1099511627776)) x102000 x102001 x102002 x102003 x102004 x102005 x102006))))
def field_Right.j2 : Nat → List Int → Bool → Int → Int → Int → Int → Int → Int → Int → Option (Int)
 | 0, _, _, _, _, _, _, _, _, _ => none
 | k + 1, x0, x24, x102000, x102001, x102002, x102003, x102004, x102005, x102006 => if x24 = true then (some 320) else (if 0 ≤ x102000 then (if x102000 < (x0.length : Int) then ((field_Tag.f k (rd x0 x102000) x102000 x102001 x102002 x102003 x102004 x102005 x102006).bind fun t103 => (if x102006 = t103 then (some 0) else (some 320))) else (none)) else (none))
end
def field_Right.f (k : Nat) (l0 : List Int) (a1_0 : Int) (a1_1 : Int) (a1_2 : Int) (a1_3 : Int) (a1_4 : Int) (a1_5 : Int) (a1_6 : Int) : Option (Int) := if a1_0 < 0 then (field_Right.j0 k l0 true a1_0 a1_1 a1_2 a1_3 a1_4 a1_5 a1_6) else (field_Right.j0 k l0 (decide (a1_0 ≥ (l0.length : Int))) a1_0 a1_1 a1_2 a1_3 a1_4 a1_5 a1_6)
def field_Right.T6 : Bool × List (List Nat × List Nat) := (true, [([], []), ([0], [0]), ([], []), ([], []), ([3], [3]), ([2, 4], [2, 4]), ([5], [5]), ([], []), ([6, 7], [6, 7]), ([1, 8], [1, 8]), ([9, 8], [9])])
def field_Right.B6 : List Nat := [0, 1, 0, 0, 8, 28, 60, 0, 252, 511, 1023]
theorem field_Right.tab6 : rtab .any (opsOf Try.f17 6) = field_Right.T6 := by kernel_rfl
theorem field_Right.bits6 : waitsOk field_Right.T6.2 field_Right.B6 = true := by kernel_rfl
set_option maxHeartbeats 40000000 in
set_option maxRecDepth 100000 in
theorem field_Right.calls (k : Nat) (A0 : Option Addr) (c0 : Nat) (l0 : List Int) (a1_0 : Int) (a1_1 : Int) (a1_2 : Int) (a1_3 : Int) (a1_4 : Int) (a1_5 : Int) (a1_6 : Int) (r : Int) (w : World) (hr0 : Kd.C (Kd.int .u64) w A0 l0.length l0) (hc0 : l0.length ≤ c0) (h : field_Right.f k l0 a1_0 a1_1 a1_2 a1_3 a1_4 a1_5 a1_6 = some r) :
  Calls Try.prog 17 #[.slice A0 l0.length c0, .agg #[.int .i64 a1_0, .int .i64 a1_1, .int .i64 a1_2, .int .i64 a1_3, .int .i64 a1_4, .int .i64 a1_5, .int .u64 a1_6]] w fun e w' => e = .returned (.int .i64 r) ∧ Below w.heap.size w w' := by
 have hu28 := Try.underlying28; have HR0 := aM hr0; have HC0 := aM hc0; clear hr0 hc0; have HB := aM (Below.refl w.heap.size w)
 have H : (if a1_0 < 0 then (field_Right.j0 k l0 true a1_0 a1_1 a1_2 a1_3 a1_4 a1_5 a1_6) else (field_Right.j0 k l0 (decide (a1_0 ≥ (l0.length : Int))) a1_0 a1_1 a1_2 a1_3 a1_4 a1_5 a1_6)) = some r := h
 clear h; have HC3 := aM H; clear H
 go_enter Try.func17, Try.ntmps17
 go_upto_region 1 with (first | ((with_reducible refine gate_dst (N := 3) rfl ?_); (try (refine gate_guard (by rfl) ?_; dsimp only)); refine bE (N := 3) (cs := #[.int .i64 a1_0, .int .i64 a1_1, .int .i64 a1_2, .int .i64 a1_3, .int .i64 a1_4, .int .i64 a1_5, .int .u64 a1_6]) (t := 28) ?_; intro gb101 hg w4 hbox hb; have BK101 := aM (hbox); have GW101 := gE hg HB; have GE101 := gE hg HB; replace HB := sB HB hb; clear hb hbox hg))
 (try simp only [Act.put, List.setIfInBounds_toArray, List.set_cons_zero, List.set_cons_succ])
 go_cut [5] (fun v5 wc => ∃ (kq : Nat) (x5_2 : Bool), v5 = .bool x5_2 ∧ Aside0 (field_Right.j0 kq l0 x5_2 a1_0 a1_1 a1_2 a1_3 a1_4 a1_5 a1_6 = some r) ∧ Aside0 (kq ≤ k) ∧ Aside0 (wc.heap[gb101]? = some (.cells #[.int .i64 a1_0, .int .i64 a1_1, .int .i64 a1_2, .int .i64 a1_3, .int .i64 a1_4, .int .i64 a1_5, .int .u64 a1_6] 28 (0, 0))) ∧ Aside0 (Below w.heap.size w wc))
 case first =>
  have H := HC3.out; clear HC3
  by_cases c5 : a1_0 < 0
  ·rw [if_pos c5] at H
   have c5b0 : decide (a1_0 < 0) = true := decide_eq_true c5
   clear c5
   (first | rw [c5b0] | (simp only [i64_w, i32_w]; rw [c5b0]) | skip)
   have H' := aM H; clear H; obtain ⟨hcz6_0, hcz6_1, hcz6_2, hcz6_3, hcz6_4, hcz6_5, hcz6_6, hfz6_0, hfz6_1, hfz6_2, hfz6_3, hfz6_4, hfz6_5, hfz6_6⟩ := cZ7 BK101
   go_wp2
   go_meet
   case rel => exact ⟨_, (true), (by first | rfl | (simp; done) | (simp [*]; done)), H', ⟨by first | omega | exact Nat.le_refl _⟩, ⟨by exact bD BK101⟩, ⟨sD HB⟩⟩
  ·rw [if_neg c5] at H
   have c5b0 : decide (a1_0 < 0) = false := decide_eq_false c5
   clear c5
   (first | rw [c5b0] | (simp only [i64_w, i32_w]; rw [c5b0]) | skip)
   have H' := aM H; clear H; obtain ⟨hcz7_0, hcz7_1, hcz7_2, hcz7_3, hcz7_4, hcz7_5, hcz7_6, hfz7_0, hfz7_1, hfz7_2, hfz7_3, hfz7_4, hfz7_5, hfz7_6⟩ := cZ7 BK101
   go_wp2
   go_meet
   case rel => exact ⟨_, (decide (a1_0 ≥ (l0.length : Int))), (by first | rfl | (simp; done) | (simp [*]; done)), H', ⟨by first | omega | exact Nat.le_refl _⟩, ⟨by exact bD BK101⟩, ⟨sD HB⟩⟩
 case rest =>
  clear HC3
  try clear c1
  try clear p2
  try clear c5
  try clear c5b0
  try clear hcz6_0
  try clear hcz6_1
  try clear hcz6_2
  try clear hcz6_3
  try clear hcz6_4
  try clear hcz6_5
  try clear hcz6_6
  try clear hcz7_0
  try clear hcz7_1
  try clear hcz7_2
  try clear hcz7_3
  try clear hcz7_4
  try clear hcz7_5
  try clear hcz7_6
  try clear hfz6_0
  try clear hfz6_1
  try clear hfz6_2
  try clear hfz6_3
  try clear hfz6_4
  try clear hfz6_5
  try clear hfz6_6
  try clear hfz7_0
  try clear hfz7_1
  try clear hfz7_2
  try clear hfz7_3
  try clear hfz7_4
  try clear hfz7_5
  try clear hfz7_6
  obtain ⟨kq, x5_2, rfl, HA, HJ2, BK101, HB⟩ := hcut
  cases kq with
  | zero => exact absurd HA.out (by simp [field_Right.j0])
  | succ kj2 =>
   have H := HA.out; clear HA
   simp only [field_Right.j0] at H
   have HC8 := aM H; clear H
   go_upto_if 5 with (fail)
   go_cut [5] (fun v5 wc => ∃ (kq : Nat) (x5_7 : Bool), v5 = .bool x5_7 ∧ Aside0 (field_Right.j1 kq l0 x5_7 a1_0 a1_1 a1_2 a1_3 a1_4 a1_5 a1_6 = some r) ∧ Aside0 (kq ≤ kj2) ∧ Aside0 (wc.heap[gb101]? = some (.cells #[.int .i64 a1_0, .int .i64 a1_1, .int .i64 a1_2, .int .i64 a1_3, .int .i64 a1_4, .int .i64 a1_5, .int .u64 a1_6] 28 (0, 0))) ∧ Aside0 (Below w.heap.size w wc))
   case first =>
    have H := HC8.out; clear HC8
    by_cases c9 : x5_2 = true
    ·subst c9
     have H1 : (field_Right.j1 kj2 l0 true a1_0 a1_1 a1_2 a1_3 a1_4 a1_5 a1_6) = some r := by rw [if_pos rfl] at H; exact H
     clear H; have H := H1; clear H1; have H' := aM H; clear H
     go_wp2
     go_meet
     case rel => exact ⟨_, (true), (by first | rfl | (simp; done) | (simp [*]; done)), H', ⟨by have := HJ2.out; first | omega | exact Nat.le_refl _⟩, ⟨by exact bD BK101⟩, ⟨sD HB⟩⟩
    ·replace c9 := Bool.eq_false_iff.mpr c9
     subst c9
     have H1 : (if a1_1 < 1 then (field_Right.j1 kj2 l0 true a1_0 a1_1 a1_2 a1_3 a1_4 a1_5 a1_6) else (field_Right.j1 kj2 l0 (decide (a1_1 > 1073741824)) a1_0 a1_1 a1_2 a1_3 a1_4 a1_5 a1_6)) = some r := by rw [if_neg (show ¬ (false = true) by decide)] at H; exact H
     clear H; have H := H1; clear H1
     by_cases c10 : a1_1 < 1
     ·rw [if_pos c10] at H
      have c10b0 : decide (a1_1 < 1) = true := decide_eq_true c10
      clear c10
      (first | rw [c10b0] | (simp only [i64_w, i32_w]; rw [c10b0]) | skip)
      have H' := aM H; clear H; obtain ⟨hcz11_0, hcz11_1, hcz11_2, hcz11_3, hcz11_4, hcz11_5, hcz11_6, hfz11_0, hfz11_1, hfz11_2, hfz11_3, hfz11_4, hfz11_5, hfz11_6⟩ := cZ7 BK101
      go_wp2
      go_meet
      case rel => exact ⟨_, (true), (by first | rfl | (simp; done) | (simp [*]; done)), H', ⟨by have := HJ2.out; first | omega | exact Nat.le_refl _⟩, ⟨by exact bD BK101⟩, ⟨sD HB⟩⟩
     ·rw [if_neg c10] at H
      have c10b0 : decide (a1_1 < 1) = false := decide_eq_false c10
      clear c10
      (first | rw [c10b0] | (simp only [i64_w, i32_w]; rw [c10b0]) | skip)
      have H' := aM H; clear H; obtain ⟨hcz12_0, hcz12_1, hcz12_2, hcz12_3, hcz12_4, hcz12_5, hcz12_6, hfz12_0, hfz12_1, hfz12_2, hfz12_3, hfz12_4, hfz12_5, hfz12_6⟩ := cZ7 BK101
      go_wp2
      go_meet
      case rel => exact ⟨_, (decide (a1_1 > 1073741824)), (by first | rfl | (simp; done) | (simp [*]; done)), H', ⟨by have := HJ2.out; first | omega | exact Nat.le_refl _⟩, ⟨by exact bD BK101⟩, ⟨sD HB⟩⟩
   case rest =>
    clear HC8
    try clear c1
    try clear p2
    try clear c5
    try clear c5b0
    try clear c9
    try clear c10
    try clear c10b0
    try clear hcz11_0
    try clear hcz11_1
    try clear hcz11_2
    try clear hcz11_3
    try clear hcz11_4
    try clear hcz11_5
    try clear hcz11_6
    try clear hcz12_0
    try clear hcz12_1
    try clear hcz12_2
    try clear hcz12_3
    try clear hcz12_4
    try clear hcz12_5
    try clear hcz12_6
    try clear hcz6_0
    try clear hcz6_1
    try clear hcz6_2
    try clear hcz6_3
    try clear hcz6_4
    try clear hcz6_5
    try clear hcz6_6
    try clear hcz7_0
    try clear hcz7_1
    try clear hcz7_2
    try clear hcz7_3
    try clear hcz7_4
    try clear hcz7_5
    try clear hcz7_6
    try clear hfz11_0
    try clear hfz11_1
    try clear hfz11_2
    try clear hfz11_3
    try clear hfz11_4
    try clear hfz11_5
    try clear hfz11_6
    try clear hfz12_0
    try clear hfz12_1
    try clear hfz12_2
    try clear hfz12_3
    try clear hfz12_4
    try clear hfz12_5
    try clear hfz12_6
    try clear hfz6_0
    try clear hfz6_1
    try clear hfz6_2
    try clear hfz6_3
    try clear hfz6_4
    try clear hfz6_5
    try clear hfz6_6
    try clear hfz7_0
    try clear hfz7_1
    try clear hfz7_2
    try clear hfz7_3
    try clear hfz7_4
    try clear hfz7_5
    try clear hfz7_6
    try clear p2
    obtain ⟨kq, x5_7, rfl, HA, HJ7, BK101, HB⟩ := hcut
    cases kq with
    | zero => exact absurd HA.out (by simp [field_Right.j1])
    | succ kj7 =>
     have H := HA.out; clear HA
     simp only [field_Right.j1] at H
     by_cases c13 : x5_7 = true
     ·subst c13
      have H1 : (some 320) = some r := by rw [if_pos rfl] at H; exact H
      clear H; have H := H1; clear H1
      obtain rfl := Option.some.inj H
      go_wp2
      go_ret
      exact ⟨by first | rfl | (simp [errW_none, errW_some] <;> rfl) | (simp [*, errW_none, errW_some] <;> rfl), sD HB⟩
     ·replace c13 := Bool.eq_false_iff.mpr c13
      subst c13
      have H1 : (if a1_5 < 0 then (field_Right.j2 kj7 l0 true a1_0 a1_1 a1_2 a1_3 a1_4 a1_5 a1_6) else (if a1_4 < a1_5 then (field_Right.j2 kj7 l0 true a1_0 a1_1 a1_2 a1_3 a1_4 a1_5 a1_6) else (if a1_3 < a1_4 then (field_Right.j2 kj7 l0 true a1_0 a1_1 a1_2 a1_3 a1_4 a1_5 a1_6) else (field_Right.j2 kj7 l0 (decide (a1_3 > 1099511627776)) a1_0 a1_1 a1_2 a1_3 a1_4 a1_5 a1_6)))) = some r := by rw [if_neg (show ¬ (false = true) by decide)] at H; exact H
      clear H; have H := H1; clear H1; have HC14 := aM H; clear H
      go_upto_region 4 with (fail)
      go_cut [24] (fun v24 wc => ∃ (kq : Nat) (x24_13 : Bool), v24 = .bool x24_13 ∧ Aside0 (field_Right.j2 kq l0 x24_13 a1_0 a1_1 a1_2 a1_3 a1_4 a1_5 a1_6 = some r) ∧ Aside0 (kq ≤ kj7) ∧ Aside0 (wc.heap[gb101]? = some (.cells #[.int .i64 a1_0, .int .i64 a1_1, .int .i64 a1_2, .int .i64 a1_3, .int .i64 a1_4, .int .i64 a1_5, .int .u64 a1_6] 28 (0, 0))) ∧ Aside0 (Below w.heap.size w wc))
      case first =>
       have H := HC14.out; clear HC14
       by_cases c15 : a1_5 < 0
       ·rw [if_pos c15] at H
        have c15b0 : decide (a1_5 < 0) = true := decide_eq_true c15
        clear c15
        (first | rw [c15b0] | (simp only [i64_w, i32_w]; rw [c15b0]) | skip)
        have H' := aM H; clear H; obtain ⟨hcz16_0, hcz16_1, hcz16_2, hcz16_3, hcz16_4, hcz16_5, hcz16_6, hfz16_0, hfz16_1, hfz16_2, hfz16_3, hfz16_4, hfz16_5, hfz16_6⟩ := cZ7 BK101
        go_wp2
        go_meet
        case rel => exact ⟨_, (true), (by first | rfl | (simp; done) | (simp [*]; done)), H', ⟨by have := HJ2.out; have := HJ7.out; first | omega | exact Nat.le_refl _⟩, ⟨by exact bD BK101⟩, ⟨sD HB⟩⟩
       ·rw [if_neg c15] at H
        have c15b0 : decide (a1_5 < 0) = false := decide_eq_false c15
        clear c15
        (first | rw [c15b0] | (simp only [i64_w, i32_w]; rw [c15b0]) | skip)
        by_cases c17 : a1_4 < a1_5
        ·rw [if_pos c17] at H
         have c17b0 : decide (a1_4 < a1_5) = true := decide_eq_true c17
         clear c17; have H' := aM H; clear H; obtain ⟨hcz18_0, hcz18_1, hcz18_2, hcz18_3, hcz18_4, hcz18_5, hcz18_6, hfz18_0, hfz18_1, hfz18_2, hfz18_3, hfz18_4, hfz18_5, hfz18_6⟩ := cZ7 BK101
         go_wp2
         go_meet
         case rel => exact ⟨_, (true), (by first | rfl | (simp; done) | (simp [*]; done)), H', ⟨by have := HJ2.out; have := HJ7.out; first | omega | exact Nat.le_refl _⟩, ⟨by exact bD BK101⟩, ⟨sD HB⟩⟩
        ·rw [if_neg c17] at H
         have c17b0 : decide (a1_4 < a1_5) = false := decide_eq_false c17
         clear c17
         by_cases c19 : a1_3 < a1_4
         ·rw [if_pos c19] at H
          have c19b0 : decide (a1_3 < a1_4) = true := decide_eq_true c19
          clear c19; have H' := aM H; clear H; obtain ⟨hcz20_0, hcz20_1, hcz20_2, hcz20_3, hcz20_4, hcz20_5, hcz20_6, hfz20_0, hfz20_1, hfz20_2, hfz20_3, hfz20_4, hfz20_5, hfz20_6⟩ := cZ7 BK101
          go_wp2
          go_meet
          case rel => exact ⟨_, (true), (by first | rfl | (simp; done) | (simp [*]; done)), H', ⟨by have := HJ2.out; have := HJ7.out; first | omega | exact Nat.le_refl _⟩, ⟨by exact bD BK101⟩, ⟨sD HB⟩⟩
         ·rw [if_neg c19] at H
          have c19b0 : decide (a1_3 < a1_4) = false := decide_eq_false c19
          clear c19; have H' := aM H; clear H; obtain ⟨hcz21_0, hcz21_1, hcz21_2, hcz21_3, hcz21_4, hcz21_5, hcz21_6, hfz21_0, hfz21_1, hfz21_2, hfz21_3, hfz21_4, hfz21_5, hfz21_6⟩ := cZ7 BK101
          go_wp2
          go_meet
          case rel => exact ⟨_, (decide (a1_3 > 1099511627776)), (by first | rfl | (simp; done) | (simp [*]; done)), H', ⟨by have := HJ2.out; have := HJ7.out; first | omega | exact Nat.le_refl _⟩, ⟨by exact bD BK101⟩, ⟨sD HB⟩⟩
      case rest =>
       clear HC14
       try clear c1
       try clear p2
       try clear c5
       try clear c5b0
       try clear c9
       try clear c10
       try clear c10b0
       try clear c13
       try clear c15
       try clear c15b0
       try clear c17
       try clear c17b0
       try clear c19
       try clear c19b0
       try clear hcz11_0
       try clear hcz11_1
       try clear hcz11_2
       try clear hcz11_3
       try clear hcz11_4
       try clear hcz11_5
       try clear hcz11_6
       try clear hcz12_0
       try clear hcz12_1
       try clear hcz12_2
       try clear hcz12_3
       try clear hcz12_4
       try clear hcz12_5
       try clear hcz12_6
       try clear hcz16_0
       try clear hcz16_1
       try clear hcz16_2
       try clear hcz16_3
       try clear hcz16_4
       try clear hcz16_5
       try clear hcz16_6
       try clear hcz18_0
       try clear hcz18_1
       try clear hcz18_2
       try clear hcz18_3
       try clear hcz18_4
       try clear hcz18_5
       try clear hcz18_6
       try clear hcz20_0
       try clear hcz20_1
       try clear hcz20_2
       try clear hcz20_3
       try clear hcz20_4
       try clear hcz20_5
       try clear hcz20_6
       try clear hcz21_0
       try clear hcz21_1
       try clear hcz21_2
       try clear hcz21_3
       try clear hcz21_4
       try clear hcz21_5
       try clear hcz21_6
       try clear hcz6_0
       try clear hcz6_1
       try clear hcz6_2
       try clear hcz6_3
       try clear hcz6_4
       try clear hcz6_5
       try clear hcz6_6
       try clear hcz7_0
       try clear hcz7_1
       try clear hcz7_2
       try clear hcz7_3
       try clear hcz7_4
       try clear hcz7_5
       try clear hcz7_6
       try clear hfz11_0
       try clear hfz11_1
       try clear hfz11_2
       try clear hfz11_3
       try clear hfz11_4
       try clear hfz11_5
       try clear hfz11_6
       try clear hfz12_0
       try clear hfz12_1
       try clear hfz12_2
       try clear hfz12_3
       try clear hfz12_4
       try clear hfz12_5
       try clear hfz12_6
       try clear hfz16_0
       try clear hfz16_1
       try clear hfz16_2
       try clear hfz16_3
       try clear hfz16_4
       try clear hfz16_5
       try clear hfz16_6
       try clear hfz18_0
       try clear hfz18_1
       try clear hfz18_2
       try clear hfz18_3
       try clear hfz18_4
       try clear hfz18_5
       try clear hfz18_6
       try clear hfz20_0
       try clear hfz20_1
       try clear hfz20_2
       try clear hfz20_3
       try clear hfz20_4
       try clear hfz20_5
       try clear hfz20_6
       try clear hfz21_0
       try clear hfz21_1
       try clear hfz21_2
       try clear hfz21_3
       try clear hfz21_4
       try clear hfz21_5
       try clear hfz21_6
       try clear hfz6_0
       try clear hfz6_1
       try clear hfz6_2
       try clear hfz6_3
       try clear hfz6_4
       try clear hfz6_5
       try clear hfz6_6
       try clear hfz7_0
       try clear hfz7_1
       try clear hfz7_2
       try clear hfz7_3
       try clear hfz7_4
       try clear hfz7_5
       try clear hfz7_6
       try clear p2
       obtain ⟨kq, x24_13, rfl, HA, HJ13, BK101, HB⟩ := hcut
       cases kq with
       | zero => exact absurd HA.out (by simp [field_Right.j2])
       | succ kj13 =>
        have H := HA.out; clear HA
        simp only [field_Right.j2] at H
        by_cases c22 : x24_13 = true
        ·subst c22
         have H1 : (some 320) = some r := by rw [if_pos rfl] at H; exact H
         clear H; have H := H1; clear H1
         obtain rfl := Option.some.inj H
         go_wp2
         go_ret
         exact ⟨by first | rfl | (simp [errW_none, errW_some] <;> rfl) | (simp [*, errW_none, errW_some] <;> rfl), sD HB⟩
        ·replace c22 := Bool.eq_false_iff.mpr c22
         subst c22
         have H1 : (if 0 ≤ a1_0 then (if a1_0 < (l0.length : Int) then ((field_Tag.f kj13 (rd l0 a1_0) a1_0 a1_1 a1_2 a1_3 a1_4 a1_5 a1_6).bind fun t103 => (if a1_6 = t103 then (some 0) else (some 320))) else (none)) else (none)) = some r := by rw [if_neg (show ¬ (false = true) by decide)] at H; exact H
         clear H; have H := H1; clear H1
         by_cases c23 : 0 ≤ a1_0
         ·rw [if_pos c23] at H
          have c23b0 : decide (0 ≤ a1_0) = true := decide_eq_true c23
          clear c23
          by_cases c24 : a1_0 < (l0.length : Int)
          ·rw [if_pos c24] at H
           have c24b0 : decide (a1_0 < (l0.length : Int)) = true := decide_eq_true c24
           clear c24; replace H := Option.bind_eq_some_iff.mp H
           obtain ⟨t103, A250, H⟩ := H
           replace H : (if a1_6 = t103 then (some 0) else (some 320)) = some r := H
           have A25 := aM A250; clear A250
           by_cases c26 : a1_6 = t103
           ·rw [if_pos c26] at H
            have c26b0 : (a1_6 == t103) = true := beq_iff_eq.mpr c26
            have c26b1 : (a1_6 != t103) = false := bne_eq_false_iff_eq.mpr c26
            clear c26
            obtain rfl := Option.some.inj H
            try go_wp2
            replace BK101 := aM (blk_drew BK101.out); replace HB := aM (below_drew1 HB.out)
            have p102 : 0 ≤ (a1_0 : Int) := of_decide_eq_true (by first | (with_reducible assumption) | assumption)
            have q102 : a1_0 < (l0.length : Int) := of_decide_eq_true (by first | (with_reducible assumption) | assumption)
            obtain ⟨ad102, e102, hx102_0⟩ := Kd.at_int HR0.out a1_0 p102 q102
            have hw102_0 := hx102_0
            cases e102
            replace hx102_0 := (HB.out.cell (World.block_lt_of_cell? w _ hx102_0)).trans hx102_0; replace p102 := eq_true p102; replace q102 := eq_true q102
            refine start_ (n := 11) (S := fun w' => w'.cell? ⟨gb101, 0, none⟩ = some (.int .i64 a1_0) ∧ w'.cell? ⟨gb101, 1, none⟩ = some (.int .i64 a1_1) ∧ w'.cell? ⟨gb101, 2, none⟩ = some (.int .i64 a1_2) ∧ w'.cell? ⟨gb101, 3, none⟩ = some (.int .i64 a1_3) ∧ w'.cell? ⟨gb101, 4, none⟩ = some (.int .i64 a1_4) ∧ w'.cell? ⟨gb101, 5, none⟩ = some (.int .i64 a1_5) ∧ w'.cell? ⟨gb101, 6, none⟩ = some (.int .u64 a1_6) ∧ w'.cell? (ad102.add (a1_0).toNat) = some (.int .u64 (rd l0 a1_0))) (ds := []) #[false, false, false, false, false, false, false, false, false, false, false] (by kernel_rfl) rfl rfl ⟨cE BK101 0, cE BK101 1, cE BK101 2, cE BK101 3, cE BK101 4, cE BK101 5, cE BK101 6, ((HB.out.cell (World.block_lt_of_cell? w _ hw102_0)).trans hw102_0)⟩ (fun hHeld => ?_); refine with_tabW field_Right.tab6 field_Right.bits6 (fun HT_ HW_ => ?_)
            generalize wc.drew = w27 at BK101 HB hx102_0 hHeld ⊢
            refine pX (i := 0) (N := some 48) rfl rfl HT_ ?_
            refine pX (i := 2) (N := some 50) rfl rfl HT_ ?_
            refine pX (i := 3) (N := some 51) rfl rfl HT_ ?_
            refine tX (i := 1) (N := some 49) rfl rfl HT_ HW_ hHeld (Or.inl ⟨by rfl, by rintro w' ⟨s0, s1, s2, s3, s4, s5, s6, s7⟩; go_simp; with_reducible rfl⟩) ?_
            refine tX (i := 4) (N := some 52) rfl rfl HT_ HW_ hHeld (Or.inl ⟨by rfl, by rintro w' ⟨s0, s1, s2, s3, s4, s5, s6, s7⟩; go_simp; with_reducible rfl⟩) ?_
            refine pX (i := 5) (N := some 53) rfl rfl HT_ ?_
            refine tX (i := 6) (N := some 54) rfl rfl HT_ HW_ hHeld (Or.inl ⟨by rfl, by rintro w' ⟨s0, s1, s2, s3, s4, s5, s6, s7⟩; go_simp; with_reducible rfl⟩) ?_
            refine tX (i := 7) (N := some 55) rfl rfl HT_ HW_ hHeld (Or.inl ⟨by rfl, by rintro w' ⟨s0, s1, s2, s3, s4, s5, s6, s7⟩; go_simp; with_reducible rfl⟩) ?_
            refine oX (i := 8) (N := some 56) rfl rfl HT_ (fun K hK => ?_)
            refine gS Try.func14 #[.int .u64 (rd l0 a1_0), .agg #[.int .i64 a1_0, .int .i64 a1_1, .int .i64 a1_2, .int .i64 a1_3, .int .i64 a1_4, .int .i64 a1_5, .int .u64 a1_6]] ?_
            with_reducible refine (field_Tag.calls kj13 (rd l0 a1_0) a1_0 a1_1 a1_2 a1_3 a1_4 a1_5 a1_6 t103 _ A25.out).mono ?_
            rintro e w28 ⟨rfl, hb⟩
            refine ⟨_, rfl, ?_⟩
            replace BK101 := bB BK101 hb; replace HB := sB HB hb; (try clear hb); (try clear hb2); (try clear hk); (try clear hi)
            refine hK.out _ _ ⟨cE BK101 0, cE BK101 1, cE BK101 2, cE BK101 3, cE BK101 4, cE BK101 5, cE BK101 6, ((HB.out.cell (World.block_lt_of_cell? w _ hw102_0)).trans hw102_0)⟩ (fun hHeld => ?_)
            clear hK K
            refine nX (some 56) ?_
            refine pX (i := 9) (N := some 57) rfl rfl HT_ ?_
            refine pX (i := 10) (N := some 47) rfl rfl HT_ ?_
            refine done_ (done_of HT_.out (by kernel_rfl)) ?_
            try go_wp2
            go_ret
            exact ⟨by first | rfl | (simp [errW_none, errW_some] <;> rfl) | (simp [*, errW_none, errW_some] <;> rfl), sD HB⟩
           ·rw [if_neg c26] at H
            have c26b0 : (a1_6 == t103) = false := beq_eq_false_iff_ne.mpr c26
            have c26b1 : (a1_6 != t103) = true := bne_iff_ne.mpr c26
            obtain rfl := Option.some.inj H
            try go_wp2
            replace BK101 := aM (blk_drew BK101.out); replace HB := aM (below_drew1 HB.out)
            have p102 : 0 ≤ (a1_0 : Int) := of_decide_eq_true (by first | (with_reducible assumption) | assumption)
            have q102 : a1_0 < (l0.length : Int) := of_decide_eq_true (by first | (with_reducible assumption) | assumption)
            obtain ⟨ad102, e102, hx102_0⟩ := Kd.at_int HR0.out a1_0 p102 q102
            have hw102_0 := hx102_0
            cases e102
            replace hx102_0 := (HB.out.cell (World.block_lt_of_cell? w _ hx102_0)).trans hx102_0; replace p102 := eq_true p102; replace q102 := eq_true q102
            refine start_ (n := 11) (S := fun w' => w'.cell? ⟨gb101, 0, none⟩ = some (.int .i64 a1_0) ∧ w'.cell? ⟨gb101, 1, none⟩ = some (.int .i64 a1_1) ∧ w'.cell? ⟨gb101, 2, none⟩ = some (.int .i64 a1_2) ∧ w'.cell? ⟨gb101, 3, none⟩ = some (.int .i64 a1_3) ∧ w'.cell? ⟨gb101, 4, none⟩ = some (.int .i64 a1_4) ∧ w'.cell? ⟨gb101, 5, none⟩ = some (.int .i64 a1_5) ∧ w'.cell? ⟨gb101, 6, none⟩ = some (.int .u64 a1_6) ∧ w'.cell? (ad102.add (a1_0).toNat) = some (.int .u64 (rd l0 a1_0))) (ds := []) #[false, false, false, false, false, false, false, false, false, false, false] (by kernel_rfl) rfl rfl ⟨cE BK101 0, cE BK101 1, cE BK101 2, cE BK101 3, cE BK101 4, cE BK101 5, cE BK101 6, ((HB.out.cell (World.block_lt_of_cell? w _ hw102_0)).trans hw102_0)⟩ (fun hHeld => ?_); refine with_tabW field_Right.tab6 field_Right.bits6 (fun HT_ HW_ => ?_)
            generalize wc.drew = w29 at BK101 HB hx102_0 hHeld ⊢
            refine pX (i := 0) (N := some 48) rfl rfl HT_ ?_
            refine pX (i := 2) (N := some 50) rfl rfl HT_ ?_
            refine pX (i := 3) (N := some 51) rfl rfl HT_ ?_
            refine tX (i := 1) (N := some 49) rfl rfl HT_ HW_ hHeld (Or.inl ⟨by rfl, by rintro w' ⟨s0, s1, s2, s3, s4, s5, s6, s7⟩; go_simp; with_reducible rfl⟩) ?_
            refine tX (i := 4) (N := some 52) rfl rfl HT_ HW_ hHeld (Or.inl ⟨by rfl, by rintro w' ⟨s0, s1, s2, s3, s4, s5, s6, s7⟩; go_simp; with_reducible rfl⟩) ?_
            refine pX (i := 5) (N := some 53) rfl rfl HT_ ?_
            refine tX (i := 6) (N := some 54) rfl rfl HT_ HW_ hHeld (Or.inl ⟨by rfl, by rintro w' ⟨s0, s1, s2, s3, s4, s5, s6, s7⟩; go_simp; with_reducible rfl⟩) ?_
            refine tX (i := 7) (N := some 55) rfl rfl HT_ HW_ hHeld (Or.inl ⟨by rfl, by rintro w' ⟨s0, s1, s2, s3, s4, s5, s6, s7⟩; go_simp; with_reducible rfl⟩) ?_
            refine oX (i := 8) (N := some 56) rfl rfl HT_ (fun K hK => ?_)
            refine gS Try.func14 #[.int .u64 (rd l0 a1_0), .agg #[.int .i64 a1_0, .int .i64 a1_1, .int .i64 a1_2, .int .i64 a1_3, .int .i64 a1_4, .int .i64 a1_5, .int .u64 a1_6]] ?_
            with_reducible refine (field_Tag.calls kj13 (rd l0 a1_0) a1_0 a1_1 a1_2 a1_3 a1_4 a1_5 a1_6 t103 _ A25.out).mono ?_
            rintro e w30 ⟨rfl, hb⟩
            refine ⟨_, rfl, ?_⟩
            replace BK101 := bB BK101 hb; replace HB := sB HB hb; (try clear hb); (try clear hb2); (try clear hk); (try clear hi)
            refine hK.out _ _ ⟨cE BK101 0, cE BK101 1, cE BK101 2, cE BK101 3, cE BK101 4, cE BK101 5, cE BK101 6, ((HB.out.cell (World.block_lt_of_cell? w _ hw102_0)).trans hw102_0)⟩ (fun hHeld => ?_)
            clear hK K
            refine nX (some 56) ?_
            refine pX (i := 9) (N := some 57) rfl rfl HT_ ?_
            refine pX (i := 10) (N := some 47) rfl rfl HT_ ?_
            refine done_ (done_of HT_.out (by kernel_rfl)) ?_
            try go_wp2
            go_ret
            exact ⟨by first | rfl | (simp [errW_none, errW_some] <;> rfl) | (simp [*, errW_none, errW_some] <;> rfl), sD HB⟩
          ·rw [if_neg c24] at H
           exact absurd H (by simp)
         ·rw [if_neg c23] at H
          exact absurd H (by simp)
end Go.Proofs.Ytfdoncgljohndaa.P
namespace Go.Proofs.Ytfdoncgljohndaa.P
open Go.Proofs.YtfdoncgljohndaaH Go.RowKit Go.Proofs.YtfdoncgljohndaaW.PrintWords Go.Proofs.YtfdoncgljohndaaW.PrintLast Go.Proofs.YtfdoncgljohndaaW.PrintMore
attribute [local go_sem] max2_int min2_int max_two min_two max_three min_three max_four min_four   -- for this text's walks alone
def rat_abs.f (a0 : Int) : Option (Int) := if a0 < 0 then (some (IntKind.u64.wrap (-(IntKind.u64.wrap (a0))))) else (some (IntKind.u64.wrap (a0)))
set_option maxHeartbeats 40000000 in
set_option maxRecDepth 100000 in
theorem rat_abs.calls (a0 : Int) (r : Int) (w : World) (h : rat_abs.f a0 = some r) :
  Calls Try.prog 59 #[.int .i64 a0] w fun e w' => e = .returned (.int .u64 r) ∧ Drawn0 w w' := by
 have H : (if a0 < 0 then (some (IntKind.u64.wrap (-(IntKind.u64.wrap (a0))))) else (some (IntKind.u64.wrap (a0)))) = some r := h
 clear h
 by_cases c2 : a0 < 0
 ·rw [if_pos c2] at H
  have c2b0 : decide (a0 < 0) = true := decide_eq_true c2
  clear c2
  obtain rfl := Option.some.inj H
  go_enter Try.func59, Try.ntmps59
  go_wp2
  go_ret
  exact ⟨by first | rfl | (simp; done) | (simp [*]; done), by repeat (first | exact Drawn0.refl _ | apply Drawn0.step)⟩
 rw [if_neg c2] at H
 have c2b0 : decide (a0 < 0) = false := decide_eq_false c2
 clear c2
 obtain rfl := Option.some.inj H
 go_enter Try.func59, Try.ntmps59
 go_wp2
 go_ret
 exact ⟨by first | rfl | (simp; done) | (simp [*]; done), by repeat (first | exact Drawn0.refl _ | apply Drawn0.step)⟩
end Go.Proofs.Ytfdoncgljohndaa.P
namespace Go.Proofs.Ytfdoncgljohndaa.P
open Go.Proofs.YtfdoncgljohndaaH Go.RowKit Go.Proofs.YtfdoncgljohndaaW.PrintWords Go.Proofs.YtfdoncgljohndaaW.PrintLast Go.Proofs.YtfdoncgljohndaaW.PrintMore
attribute [local go_sem] max2_int min2_int max_two min_two max_three min_three max_four min_four   -- for this text's walks alone
mutual
def rat_gcd.l0 : Nat → Int → List Int → Int → Int → Option (Int)
 | 0, _, _, _, _ => none
 | k + 1, x3, x10, x11, x12 => if x12 < x11 then (if 0 ≤ x12 then (if x12 < (x10.length : Int) then (rat_gcd.l1 k x3 (rd x10 x12) x10 x11 x12) else (none)) else (none)) else (some x3)
def rat_gcd.l1 : Nat → Int → Int → List Int → Int → Int → Option (Int)
 | 0, _, _, _, _, _ => none
 | k + 1, x3, x5, x10, x11, x12 => if x5 > 0 then (if x5 = 0 then (none) else (rat_gcd.l1 k x5 (Int.tmod x3 x5) x10 x11 x12)) else (rat_gcd.l0 k x3 x10 x11 (wrap64 (x12 + 1)))
end
def rat_gcd.f (k : Nat) (l0 : List Int) : Option (Int) := if 0 < (l0.length : Int) then (if 1 ≤ (l0.length : Int) then (rat_gcd.l0 k (rd l0 0) (l0.drop 1) ((l0.drop 1).length : Int) 0) else (none)) else (none)
set_option maxHeartbeats 40000000 in
set_option maxRecDepth 100000 in
theorem rat_gcd.calls (k : Nat) (A0 : Option Addr) (c0 : Nat) (l0 : List Int) (r : Int) (w : World) (hr0 : Kd.C (Kd.int .u64) w A0 l0.length l0) (hc0 : l0.length ≤ c0) (h : rat_gcd.f k l0 = some r) :
  Calls Try.prog 63 #[.slice A0 l0.length c0] w fun e w' => e = .returned (.int .u64 r) ∧ Drawn0 w w' := by
 have HR0 := aM hr0; have HC0 := aM hc0; clear hr0 hc0
 have H : (if 0 < (l0.length : Int) then (if 1 ≤ (l0.length : Int) then (rat_gcd.l0 k (rd l0 0) (l0.drop 1) ((l0.drop 1).length : Int) 0) else (none)) else (none)) = some r := h
 clear h
 by_cases c2 : 0 < (l0.length : Int)
 rotate_left
 ·rw [if_neg c2] at H
  exact absurd H (by simp)
 rw [if_pos c2] at H
 have c2b0 : decide (0 < (l0.length : Int)) = true := decide_eq_true c2
 have c2b1 : decide (0 < l0.length) = true := decide_eq_true (by omega)
 clear c2
 by_cases c3 : 1 ≤ (l0.length : Int)
 rotate_left
 ·rw [if_neg c3] at H
  exact absurd H (by simp)
 rw [if_pos c3] at H
 have c3b0 := eq_true c3
 have c3b1 : decide (1 ≤ (l0.length : Int)) = true := decide_eq_true c3
 clear c3; have H' := aM H; clear H
 have p101 : 0 ≤ (0 : Int) := (by omega)
 have q101 : 0 < (l0.length : Int) := of_decide_eq_true (by first | (with_reducible assumption) | assumption)
 obtain ⟨ad101, e101, hx101_0⟩ := Kd.at_int HR0.out 0 p101 q101
 cases e101
 have qi101 : (0 < l0.length) = True := eq_true (by omega)
 (try rw [show ((0 : Int)).toNat = 0 from rfl] at hx101_0)
 (try rw [Addr.add_zero'] at hx101_0)
 replace p101 := eq_true p101; replace q101 := eq_true q101
 (try (have qd101 := q101; simp only [List.length_drop] at qd101))
 obtain ⟨i04, hi04, _, hsz4, _⟩ := info_parts info26
 obtain ⟨A4, hcut4, hA4, hC4⟩ := print_drop_of (P := Try.prog) (Value.int .u64) 0 30 26 .i64 Try.underlying30 hi04 hsz4 (some ad101) c0 l0 1 (by omega) (of_decide_eq_true (by first | (with_reducible assumption) | assumption)) HC0.out
 have HR102 := aM (Kd.C_of_reads (h1 := fun _ => rfl) (hA4 _ (Kd.reads_of_C HR0.out))); have HC102 := aM hC4; clear hA4 hC4 hi04 hsz4
 go_enter Try.func63, Try.ntmps63
 go_wp2
 repeat (go_quiet (fail); try go_wp2)
 go_loopg [3, 12] k (fun kq v3 v12 w' => ∃ (x3_1 : Int) (x12_1 : Int), v3 = .int .u64 x3_1 ∧ v12 = .int .i64 x12_1 ∧ Aside0 (rat_gcd.l0 kq x3_1 (l0.drop 1) ((l0.drop 1).length : Int) x12_1 = some r) ∧ Aside0 (kq ≤ k) ∧ Drawn0 w w')
 case atStart => exact ⟨(rd l0 0), (0), (by first | rfl | (simp; done) | (simp [*]; done)), (by first | rfl | (simp; done) | (simp [*]; done)), H', ⟨Nat.le_refl _⟩, by repeat (first | exact Drawn0.refl _ | apply Drawn0.step)⟩
 case round =>
  clear H'
  try clear p1
  try clear q1
  try clear hx1
  try clear qi1
  try clear c2
  try clear c2b0
  try clear c2b1
  try clear p2
  try clear c3
  try clear c3b0
  try clear c3b1
  try clear hx101_0
  try clear p101
  try clear q101
  obtain ⟨x3_1, x12_1, rfl, rfl, HA, HK1, ⟨m1, rfl⟩⟩ := hrel
  cases gk with
  | zero => exact absurd HA.out (by simp [rat_gcd.l0])
  | succ k1 =>
   have H := HA.out; clear HA
   simp only [rat_gcd.l0] at H
   by_cases c5 : x12_1 < ((l0.drop 1).length : Int)
   ·rw [if_pos c5] at H
    have c5b0 : decide (x12_1 < ((l0.drop 1).length : Int)) = true := decide_eq_true c5
    (try (have c5b1 : decide (x12_1 < ((l0.length - 1 : Nat) : Int)) = true := by have h_ : decide (x12_1 < ((l0.drop 1).length : Int)) = true := decide_eq_true c5; simp only [List.length_drop] at h_; exact h_))
    clear c5
    by_cases c6 : 0 ≤ x12_1
    ·rw [if_pos c6] at H
     have c6b0 : decide (0 ≤ x12_1) = true := decide_eq_true c6
     clear c6
     by_cases c7 : x12_1 < ((l0.drop 1).length : Int)
     ·rw [if_pos c7] at H
      have c7b0 : decide (x12_1 < ((l0.drop 1).length : Int)) = true := decide_eq_true c7
      (try (have c7b1 : decide (x12_1 < ((l0.length - 1 : Nat) : Int)) = true := by have h_ : decide (x12_1 < ((l0.drop 1).length : Int)) = true := decide_eq_true c7; simp only [List.length_drop] at h_; exact h_))
      clear c7; have H' := aM H; clear H
      have p103 : 0 ≤ (x12_1 : Int) := of_decide_eq_true (by first | (with_reducible assumption) | assumption)
      have q103 : x12_1 < ((l0.drop 1).length : Int) := of_decide_eq_true (by first | (with_reducible assumption) | assumption)
      obtain ⟨ad103, e103, hx103_0⟩ := Kd.at_int HR102.out x12_1 p103 q103
      cases e103
      replace p103 := eq_true p103; replace q103 := eq_true q103
      (try (have qd103 := q103; simp only [List.length_drop] at qd103))
      go_wp2
      repeat (go_quiet (fail); try go_wp2)
      go_loopg [3, 5] k1 (fun kq v3 v5 w' => ∃ (x3_2 : Int) (x5_2 : Int), v3 = .int .u64 x3_2 ∧ v5 = .int .u64 x5_2 ∧ Aside0 (rat_gcd.l1 kq x3_2 x5_2 (l0.drop 1) ((l0.drop 1).length : Int) x12_1 = some r) ∧ Aside0 (kq ≤ k1) ∧ Drawn0 w w')
      case atStart => exact ⟨(x3_1), (rd (l0.drop 1) x12_1), (by first | rfl | (simp; done) | (simp [*]; done)), (by first | rfl | (simp; done) | (simp [*]; done)), H', ⟨Nat.le_refl _⟩, by repeat (first | exact Drawn0.refl _ | apply Drawn0.step)⟩
      case round =>
       clear H'
       try clear p1
       try clear q1
       try clear hx1
       try clear qi1
       try clear c2
       try clear c2b0
       try clear c2b1
       try clear p2
       try clear c3
       try clear c3b0
       try clear c3b1
       try clear c5
       try clear c5b0
       try clear c5b1
       try clear c6
       try clear c6b0
       try clear c7
       try clear c7b0
       try clear c7b1
       try clear hx101_0
       try clear hx103_0
       try clear p1
       try clear p101
       try clear p103
       try clear p2
       try clear q1
       try clear q101
       try clear q103
       obtain ⟨x3_2, x5_2, rfl, rfl, HA, HK2, ⟨m2, rfl⟩⟩ := hrel
       cases gk with
       | zero => exact absurd HA.out (by simp [rat_gcd.l1])
       | succ k2 =>
        have H := HA.out; clear HA
        simp only [rat_gcd.l1] at H
        by_cases c8 : x5_2 > 0
        ·rw [if_pos c8] at H
         have c8b0 : decide (0 < x5_2) = true := decide_eq_true c8
         clear c8
         by_cases c9 : x5_2 = 0
         ·rw [if_pos c9] at H
          exact absurd H (by simp)
         ·rw [if_neg c9] at H
          have c9b0 : (x5_2 == 0) = false := beq_eq_false_iff_ne.mpr c9
          have c9b1 : (x5_2 != 0) = true := bne_iff_ne.mpr c9
          have H' := aM H; clear H
          go_wp2
          repeat (go_quiet (fail); try go_wp2)
          go_roundg k2
          case measure => have := HK1.out; have := HK2.out; omega
          case rel => exact ⟨(x5_2), (Int.tmod x3_2 x5_2), (by first | rfl | (simp; done) | (simp [*]; done)), (by first | rfl | (simp; done) | (simp [*]; done)), H', ⟨by have := HK1.out; have := HK2.out; omega⟩, by repeat (first | exact Drawn0.refl _ | apply Drawn0.step)⟩
        ·rw [if_neg c8] at H
         have c8b0 : decide (0 < x5_2) = false := decide_eq_false c8
         clear c8; have H' := aM H; clear H
         go_wp2
         repeat (go_quiet (fail); try go_wp2)
         go_roundg k2
         case measure => have := HK1.out; have := HK2.out; omega
         case rel => exact ⟨(x3_2), (wrap64 (x12_1 + 1)), (by first | rfl | (simp; done) | (simp [*]; done)), (by first | rfl | (simp; done) | (simp [*]; done)), H', ⟨by have := HK1.out; have := HK2.out; omega⟩, by repeat (first | exact Drawn0.refl _ | apply Drawn0.step)⟩
     ·rw [if_neg c7] at H
      exact absurd H (by simp)
    ·rw [if_neg c6] at H
     exact absurd H (by simp)
   ·rw [if_neg c5] at H
    have c5b0 : decide (x12_1 < ((l0.drop 1).length : Int)) = false := decide_eq_false c5
    (try (have c5b1 : decide (x12_1 < ((l0.length - 1 : Nat) : Int)) = false := by have h_ : decide (x12_1 < ((l0.drop 1).length : Int)) = false := decide_eq_false c5; simp only [List.length_drop] at h_; exact h_))
    clear c5
    obtain rfl := Option.some.inj H
    go_wp2
    repeat (go_quiet (fail); try go_wp2)
    go_ret
    exact ⟨by first | rfl | (simp; done) | (simp [*]; done), by repeat (first | exact Drawn0.refl _ | apply Drawn0.step)⟩
end Go.Proofs.Ytfdoncgljohndaa.P
namespace Go.Proofs.Ytfdoncgljohndaa.P
open Go.Proofs.YtfdoncgljohndaaH Go.RowKit Go.Proofs.YtfdoncgljohndaaW.PrintWords Go.Proofs.YtfdoncgljohndaaW.PrintLast Go.Proofs.YtfdoncgljohndaaW.PrintMore
attribute [local go_sem] max2_int min2_int max_two min_two max_three min_three max_four min_four   -- for this text's walks alone
attribute [local go_sem] Go.Proofs.YtfdoncgljohndaaH.cell_set_map
def rat_zero.f  : Option (Int × Int × Int) := some (0, 1, 0)
set_option maxHeartbeats 40000000 in
set_option maxRecDepth 100000 in
theorem rat_zero.calls  (r1 : Int) (r2 : Int) (r3 : Int) (w : World) (h : rat_zero.f  = some (r1, r2, r3)) :
  Calls Try.prog 65 #[] w fun e w' => e = .returned (.tuple #[.agg #[.int .i64 r1, .int .i64 r2], .int .i64 r3]) ∧ Below w.heap.size w w' := by
 have hu43 := Try.underlying43; have HB := aM (Below.refl w.heap.size w)
 have H : (some (0, 1, 0)) = some (r1, r2, r3) := h
 clear h
 simp only [Option.some.injEq, Prod.mk.injEq] at H
 obtain ⟨rfl, rfl, rfl⟩ := H
 go_enter Try.func65, Try.ntmps65
 go_wp2_with (first | ((with_reducible refine gate_dst (N := 0) rfl ?_); refine bE (N := 0) (cs := #[.int .i64 0, .int .i64 0]) (t := 43) ?_; intro gb101 hg w1 hbox hb; have BK101 := aM (hbox); have GW101 := gE hg HB; have GE101 := gE hg HB; replace HB := sB HB hb; clear hb hbox hg; obtain ⟨hcz2_0, hcz2_1, hfz2_0, hfz2_1⟩ := cZ2 BK101))
 refine bodyPost_ret (results_ct rfl _ _ gb101 43 #[.int .i64 0, .int .i64 1] (0, 0) _ rfl (by refine bM ?_; refine blk_put (cs := #[.int .i64 0, .int .i64 0]) ?_ 1 _ rfl; refine bM ?_; refine blk_put (cs := #[.int .i64 0, .int .i64 0]) ?_ 0 _ rfl; exact bD BK101) Try.underlying43 rfl (by kernel_rfl)) rfl ?_
 exact ⟨by first | rfl | (simp [errW_none, errW_some] <;> rfl) | (simp [*, errW_none, errW_some] <;> rfl), sD HB⟩
end Go.Proofs.Ytfdoncgljohndaa.P
namespace Go.Proofs.Ytfdoncgljohndaa.P
open Go.Proofs.YtfdoncgljohndaaH Go.RowKit Go.Proofs.YtfdoncgljohndaaW.PrintWords Go.Proofs.YtfdoncgljohndaaW.PrintLast Go.Proofs.YtfdoncgljohndaaW.PrintMore
attribute [local go_sem] max2_int min2_int max_two min_two max_three min_three max_four min_four   -- for this text's walks alone
def rat_wide_number.j0 : Nat → Bool → Bool → Int → Int → Option (Int × Bool)
 | 0, _, _, _, _ => none
 | k + 1, x11, x102000, x102001, x102002 => if x11 = true then (some (0, false)) else (if x102000 = true then (some (wrap64 (-(wrap64 (x102002))), true)) else (some (wrap64 (x102002), true)))
def rat_wide_number.f (k : Nat) (a0_0 : Bool) (a0_1 : Int) (a0_2 : Int) : Option (Int × Bool) := if a0_1 > 0 then (rat_wide_number.j0 k true a0_0 a0_1 a0_2) else (rat_wide_number.j0 k (decide (a0_2 > 4611686018427387904)) a0_0 a0_1 a0_2)
set_option maxHeartbeats 40000000 in
set_option maxRecDepth 100000 in
theorem rat_wide_number.calls (k : Nat) (a0_0 : Bool) (a0_1 : Int) (a0_2 : Int) (r1 : Int) (r2 : Bool) (w : World) (h : rat_wide_number.f k a0_0 a0_1 a0_2 = some (r1, r2)) :
  Calls Try.prog 77 #[.agg #[.bool a0_0, .int .u64 a0_1, .int .u64 a0_2]] w fun e w' => e = .returned (.tuple #[.int .i64 r1, .bool r2]) ∧ Below w.heap.size w w' := by
 have hu100 := Try.underlying100; have HB := aM (Below.refl w.heap.size w)
 have H : (if a0_1 > 0 then (rat_wide_number.j0 k true a0_0 a0_1 a0_2) else (rat_wide_number.j0 k (decide (a0_2 > 4611686018427387904)) a0_0 a0_1 a0_2)) = some (r1, r2) := h
 clear h; have HC2 := aM H; clear H
 go_enter Try.func77, Try.ntmps77
 go_upto_region 1 with (first | ((with_reducible refine gate_dst (N := 1) rfl ?_); refine bE (N := 1) (cs := #[.bool a0_0, .int .u64 a0_1, .int .u64 a0_2]) (t := 100) ?_; intro gb101 hg w3 hbox hb; have BK101 := aM (hbox); have GW101 := gE hg HB; have GE101 := gE hg HB; replace HB := sB HB hb; clear hb hbox hg))
 (try simp only [Act.put, List.setIfInBounds_toArray, List.set_cons_zero, List.set_cons_succ])
 go_cut [11] (fun v11 wc => ∃ (kq : Nat) (x11_1 : Bool), v11 = .bool x11_1 ∧ Aside0 (rat_wide_number.j0 kq x11_1 a0_0 a0_1 a0_2 = some (r1, r2)) ∧ Aside0 (kq ≤ k) ∧ Aside0 (wc.heap[gb101]? = some (.cells #[.bool a0_0, .int .u64 a0_1, .int .u64 a0_2] 100 (0, 0))) ∧ Aside0 (Below w.heap.size w wc))
 case first =>
  have H := HC2.out; clear HC2
  by_cases c4 : a0_1 > 0
  ·rw [if_pos c4] at H
   have c4b0 : decide (0 < a0_1) = true := decide_eq_true c4
   clear c4
   (first | rw [c4b0] | (simp only [i64_w, i32_w]; rw [c4b0]) | skip)
   have H' := aM H; clear H; obtain ⟨hcz5_0, hcz5_1, hcz5_2, hfz5_0, hfz5_1, hfz5_2⟩ := cZ3 BK101
   go_wp2
   go_meet
   case rel => exact ⟨_, (true), (by first | rfl | (simp; done) | (simp [*]; done)), H', ⟨by first | omega | exact Nat.le_refl _⟩, ⟨by exact bD BK101⟩, ⟨sD HB⟩⟩
  ·rw [if_neg c4] at H
   have c4b0 : decide (0 < a0_1) = false := decide_eq_false c4
   clear c4
   (first | rw [c4b0] | (simp only [i64_w, i32_w]; rw [c4b0]) | skip)
   have H' := aM H; clear H; obtain ⟨hcz6_0, hcz6_1, hcz6_2, hfz6_0, hfz6_1, hfz6_2⟩ := cZ3 BK101
   go_wp2
   go_meet
   case rel => exact ⟨_, (decide (a0_2 > 4611686018427387904)), (by first | rfl | (simp; done) | (simp [*]; done)), H', ⟨by first | omega | exact Nat.le_refl _⟩, ⟨by exact bD BK101⟩, ⟨sD HB⟩⟩
 case rest =>
  clear HC2
  try clear p2
  try clear c4
  try clear c4b0
  try clear hcz5_0
  try clear hcz5_1
  try clear hcz5_2
  try clear hcz6_0
  try clear hcz6_1
  try clear hcz6_2
  try clear hfz5_0
  try clear hfz5_1
  try clear hfz5_2
  try clear hfz6_0
  try clear hfz6_1
  try clear hfz6_2
  obtain ⟨kq, x11_1, rfl, HA, HJ1, BK101, HB⟩ := hcut
  cases kq with
  | zero => exact absurd HA.out (by simp [rat_wide_number.j0])
  | succ kj1 =>
   have H := HA.out; clear HA
   simp only [rat_wide_number.j0] at H
   by_cases c7 : x11_1 = true
   ·subst c7
    have H1 : (some (0, false)) = some (r1, r2) := by rw [if_pos rfl] at H; exact H
    clear H; have H := H1; clear H1
    simp only [Option.some.injEq, Prod.mk.injEq] at H
    obtain ⟨rfl, rfl⟩ := H
    go_wp2
    go_ret2
    exact ⟨by first | rfl | (simp [errW_none, errW_some] <;> rfl) | (simp [*, errW_none, errW_some] <;> rfl), sD HB⟩
   ·replace c7 := Bool.eq_false_iff.mpr c7
    subst c7
    have H1 : (if a0_0 = true then (some (wrap64 (-(wrap64 (a0_2))), true)) else (some (wrap64 (a0_2), true))) = some (r1, r2) := by rw [if_neg (show ¬ (false = true) by decide)] at H; exact H
    clear H; have H := H1; clear H1
    by_cases c8 : a0_0 = true
    ·subst c8
     have H1 : (some (wrap64 (-(wrap64 (a0_2))), true)) = some (r1, r2) := by rw [if_pos rfl] at H; exact H
     clear H; have H := H1; clear H1
     simp only [Option.some.injEq, Prod.mk.injEq] at H
     obtain ⟨rfl, rfl⟩ := H
     obtain ⟨hcz9_0, hcz9_1, hcz9_2, hfz9_0, hfz9_1, hfz9_2⟩ := cZ3 BK101
     go_wp2
     go_ret2
     exact ⟨by first | rfl | (simp [errW_none, errW_some] <;> rfl) | (simp [*, errW_none, errW_some] <;> rfl), sD HB⟩
    ·replace c8 := Bool.eq_false_iff.mpr c8
     subst c8
     have H1 : (some (wrap64 (a0_2), true)) = some (r1, r2) := by rw [if_neg (show ¬ (false = true) by decide)] at H; exact H
     clear H; have H := H1; clear H1
     simp only [Option.some.injEq, Prod.mk.injEq] at H
     obtain ⟨rfl, rfl⟩ := H
     obtain ⟨hcz10_0, hcz10_1, hcz10_2, hfz10_0, hfz10_1, hfz10_2⟩ := cZ3 BK101
     go_wp2
     go_ret2
     exact ⟨by first | rfl | (simp [errW_none, errW_some] <;> rfl) | (simp [*, errW_none, errW_some] <;> rfl), sD HB⟩
end Go.Proofs.Ytfdoncgljohndaa.P
namespace Go.Proofs.Ytfdoncgljohndaa.P
open Go.Proofs.YtfdoncgljohndaaH Go.RowKit Go.Proofs.YtfdoncgljohndaaW.PrintWords Go.Proofs.YtfdoncgljohndaaW.PrintLast Go.Proofs.YtfdoncgljohndaaW.PrintMore
attribute [local go_sem] max2_int min2_int max_two min_two max_three min_three max_four min_four   -- for this text's walks alone
attribute [local go_sem] Go.Proofs.YtfdoncgljohndaaH.cell_set_map
def rat_made.f (k : Nat) (a0_0 : Bool) (a0_1 : Int) (a0_2 : Int) (a1_0 : Bool) (a1_1 : Int) (a1_2 : Int) : Option (Int × Int × Int) := (rat_wide_number.f k a0_0 a0_1 a0_2).bind fun bt104 => ((rat_wide_number.f k a1_0 a1_1 a1_2).bind fun bt106 => (if bt104.2 = true then (if bt106.2 = true then (some (bt104.1, bt106.1, 0)) else (some (0, 0, 2))) else (some (0, 0, 2))))
set_option maxHeartbeats 40000000 in
set_option maxRecDepth 100000 in
theorem rat_made.calls (k : Nat) (a0_0 : Bool) (a0_1 : Int) (a0_2 : Int) (a1_0 : Bool) (a1_1 : Int) (a1_2 : Int) (r1 : Int) (r2 : Int) (r3 : Int) (w : World) (h : rat_made.f k a0_0 a0_1 a0_2 a1_0 a1_1 a1_2 = some (r1, r2, r3)) :
  Calls Try.prog 67 #[.agg #[.bool a0_0, .int .u64 a0_1, .int .u64 a0_2], .agg #[.bool a1_0, .int .u64 a1_1, .int .u64 a1_2]] w fun e w' => e = .returned (.tuple #[.agg #[.int .i64 r1, .int .i64 r2], .int .i64 r3]) ∧ Below w.heap.size w w' := by
 have hu100 := Try.underlying100; have hu43 := Try.underlying43; have HB := aM (Below.refl w.heap.size w)
 have H : ((rat_wide_number.f k a0_0 a0_1 a0_2).bind fun bt104 => ((rat_wide_number.f k a1_0 a1_1 a1_2).bind fun bt106 => (if bt104.2 = true then (if bt106.2 = true then (some (bt104.1, bt106.1, 0)) else (some (0, 0, 2))) else (some (0, 0, 2))))) = some (r1, r2, r3) := h
 clear h; replace H := Option.bind_eq_some_iff.mp H
 obtain ⟨⟨t104, t105⟩, A30, H⟩ := H
 replace H : ((rat_wide_number.f k a1_0 a1_1 a1_2).bind fun bt106 => (if t105 = true then (if bt106.2 = true then (some (t104, bt106.1, 0)) else (some (0, 0, 2))) else (some (0, 0, 2)))) = some (r1, r2, r3) := H
 have A3 := aM A30; clear A30; replace H := Option.bind_eq_some_iff.mp H
 obtain ⟨⟨t106, t107⟩, A40, H⟩ := H
 replace H : (if t105 = true then (if t107 = true then (some (t104, t106, 0)) else (some (0, 0, 2))) else (some (0, 0, 2))) = some (r1, r2, r3) := H
 have A4 := aM A40; clear A40
 by_cases c5 : t105 = true
 rotate_left
 ·replace c5 := Bool.eq_false_iff.mpr c5
  subst c5
  have H1 : (some (0, 0, 2)) = some (r1, r2, r3) := by rw [if_neg (show ¬ (false = true) by decide)] at H; exact H
  clear H; have H := H1; clear H1
  simp only [Option.some.injEq, Prod.mk.injEq] at H
  obtain ⟨rfl, rfl, rfl⟩ := H
  go_enter Try.func67, Try.ntmps67
  go_wp2_with (first | ((with_reducible refine gate_dst (N := 2) rfl ?_); refine bE (N := 2) (cs := #[.bool a0_0, .int .u64 a0_1, .int .u64 a0_2]) (t := 100) ?_; intro gb101 hg w29 hbox hb; have BK101 := aM (hbox); have GW101 := gE hg HB; have GE101 := gE hg HB; replace HB := sB HB hb; clear hb hbox hg) | ((with_reducible refine gate_dst (N := 3) rfl ?_); refine bE (N := 3) (cs := #[.bool a1_0, .int .u64 a1_1, .int .u64 a1_2]) (t := 100) ?_; intro gb102 hg w30 hbox hb; have BK102 := aM (hbox); have GW102 := gE hg HB; have GE102 := gE hg HB; have NB101_102 := nL hg BK101; replace BK101 := bB BK101 hb; replace HB := sB HB hb; clear hb hbox hg) | ((with_reducible refine gate_dst (N := 4) rfl ?_); refine bE (N := 4) (cs := #[.int .i64 0, .int .i64 0]) (t := 43) ?_; intro gb103 hg w31 hbox hb; have BK103 := aM (hbox); have GW103 := gE hg HB; have GE103 := gE hg HB; have NB101_103 := nL hg BK101; have NB102_103 := nL hg BK102; replace BK101 := bB BK101 hb; replace BK102 := bB BK102 hb; replace HB := sB HB hb; clear hb hbox hg; have hnb32 := NB101_102.out; have hnc32 := NB101_102.out.symm; have hnb33 := NB101_103.out; have hnc33 := NB101_103.out.symm; obtain ⟨hcz34_0, hcz34_1, hcz34_2, hfz34_0, hfz34_1, hfz34_2⟩ := cZ3 BK101) | ((with_reducible refine gate_callee (f := 77) rfl ?_); refine gL (some 12) Try.func77 #[.agg #[.bool a0_0, .int .u64 a0_1, .int .u64 a0_2]] ?_; (with_reducible refine (rat_wide_number.calls k a0_0 a0_1 a0_2 t104 false _ A3.out).mono ?_); rintro e w35 ⟨rfl, hb⟩; refine ⟨_, rfl, ?_⟩; replace BK101 := bB BK101 hb; replace BK102 := bB BK102 hb; replace BK103 := bB BK103 hb; replace HB := sB HB hb; (try clear hb); have hnb36 := NB102_103.out; have hnc36 := NB102_103.out.symm; obtain ⟨hcz37_0, hcz37_1, hcz37_2, hfz37_0, hfz37_1, hfz37_2⟩ := cZ3 BK102) | ((with_reducible refine gate_callee (f := 77) rfl ?_); refine gL (some 17) Try.func77 #[.agg #[.bool a1_0, .int .u64 a1_1, .int .u64 a1_2]] ?_; (with_reducible refine (rat_wide_number.calls k a1_0 a1_1 a1_2 t106 t107 _ A4.out).mono ?_); rintro e w38 ⟨rfl, hb⟩; refine ⟨_, rfl, ?_⟩; replace BK101 := bB BK101 hb; replace BK102 := bB BK102 hb; replace BK103 := bB BK103 hb; replace HB := sB HB hb; (try clear hb); obtain ⟨hcz39_0, hcz39_1, hfz39_0, hfz39_1⟩ := cZ2 BK103))
  refine bodyPost_ret (results_ct rfl _ _ gb103 43 #[.int .i64 0, .int .i64 0] (0, 0) _ rfl (by refine bM ?_; refine blk_put (cs := #[.int .i64 0, .int .i64 0]) ?_ 1 _ rfl; refine bM ?_; refine blk_put (cs := #[.int .i64 0, .int .i64 0]) ?_ 0 _ rfl; exact bD BK103) Try.underlying43 rfl (by kernel_rfl)) rfl ?_
  exact ⟨by first | rfl | (simp [errW_none, errW_some] <;> rfl) | (simp [*, errW_none, errW_some] <;> rfl), sD HB⟩
 subst c5
 have H1 : (if t107 = true then (some (t104, t106, 0)) else (some (0, 0, 2))) = some (r1, r2, r3) := by rw [if_pos rfl] at H; exact H
 clear H; have H := H1; clear H1
 by_cases c6 : t107 = true
 ·subst c6
  have H1 : (some (t104, t106, 0)) = some (r1, r2, r3) := by rw [if_pos rfl] at H; exact H
  clear H; have H := H1; clear H1
  simp only [Option.some.injEq, Prod.mk.injEq] at H
  obtain ⟨rfl, rfl, rfl⟩ := H
  go_enter Try.func67, Try.ntmps67
  go_wp2_with (first | ((with_reducible refine gate_dst (N := 2) rfl ?_); refine bE (N := 2) (cs := #[.bool a0_0, .int .u64 a0_1, .int .u64 a0_2]) (t := 100) ?_; intro gb101 hg w7 hbox hb; have BK101 := aM (hbox); have GW101 := gE hg HB; have GE101 := gE hg HB; replace HB := sB HB hb; clear hb hbox hg) | ((with_reducible refine gate_dst (N := 3) rfl ?_); refine bE (N := 3) (cs := #[.bool a1_0, .int .u64 a1_1, .int .u64 a1_2]) (t := 100) ?_; intro gb102 hg w8 hbox hb; have BK102 := aM (hbox); have GW102 := gE hg HB; have GE102 := gE hg HB; have NB101_102 := nL hg BK101; replace BK101 := bB BK101 hb; replace HB := sB HB hb; clear hb hbox hg) | ((with_reducible refine gate_dst (N := 4) rfl ?_); refine bE (N := 4) (cs := #[.int .i64 0, .int .i64 0]) (t := 43) ?_; intro gb103 hg w9 hbox hb; have BK103 := aM (hbox); have GW103 := gE hg HB; have GE103 := gE hg HB; have NB101_103 := nL hg BK101; have NB102_103 := nL hg BK102; replace BK101 := bB BK101 hb; replace BK102 := bB BK102 hb; replace HB := sB HB hb; clear hb hbox hg; have hnb10 := NB101_102.out; have hnc10 := NB101_102.out.symm; have hnb11 := NB101_103.out; have hnc11 := NB101_103.out.symm; obtain ⟨hcz12_0, hcz12_1, hcz12_2, hfz12_0, hfz12_1, hfz12_2⟩ := cZ3 BK101) | ((with_reducible refine gate_callee (f := 77) rfl ?_); refine gL (some 12) Try.func77 #[.agg #[.bool a0_0, .int .u64 a0_1, .int .u64 a0_2]] ?_; (with_reducible refine (rat_wide_number.calls k a0_0 a0_1 a0_2 t104 true _ A3.out).mono ?_); rintro e w13 ⟨rfl, hb⟩; refine ⟨_, rfl, ?_⟩; replace BK101 := bB BK101 hb; replace BK102 := bB BK102 hb; replace BK103 := bB BK103 hb; replace HB := sB HB hb; (try clear hb); have hnb14 := NB102_103.out; have hnc14 := NB102_103.out.symm; obtain ⟨hcz15_0, hcz15_1, hcz15_2, hfz15_0, hfz15_1, hfz15_2⟩ := cZ3 BK102) | ((with_reducible refine gate_callee (f := 77) rfl ?_); refine gL (some 17) Try.func77 #[.agg #[.bool a1_0, .int .u64 a1_1, .int .u64 a1_2]] ?_; (with_reducible refine (rat_wide_number.calls k a1_0 a1_1 a1_2 t106 true _ A4.out).mono ?_); rintro e w16 ⟨rfl, hb⟩; refine ⟨_, rfl, ?_⟩; replace BK101 := bB BK101 hb; replace BK102 := bB BK102 hb; replace BK103 := bB BK103 hb; replace HB := sB HB hb; (try clear hb); obtain ⟨hcz17_0, hcz17_1, hfz17_0, hfz17_1⟩ := cZ2 BK103))
  refine bodyPost_ret (results_ct rfl _ _ gb103 43 #[.int .i64 t104, .int .i64 t106] (0, 0) _ rfl (by refine bM ?_; refine blk_put (cs := #[.int .i64 t104, .int .i64 0]) ?_ 1 _ rfl; refine bM ?_; refine blk_put (cs := #[.int .i64 0, .int .i64 0]) ?_ 0 _ rfl; exact bD BK103) Try.underlying43 rfl (by kernel_rfl)) rfl ?_
  exact ⟨by first | rfl | (simp [errW_none, errW_some] <;> rfl) | (simp [*, errW_none, errW_some] <;> rfl), sD HB⟩
 replace c6 := Bool.eq_false_iff.mpr c6
 subst c6
 have H1 : (some (0, 0, 2)) = some (r1, r2, r3) := by rw [if_neg (show ¬ (false = true) by decide)] at H; exact H
 clear H; have H := H1; clear H1
 simp only [Option.some.injEq, Prod.mk.injEq] at H
 obtain ⟨rfl, rfl, rfl⟩ := H
 go_enter Try.func67, Try.ntmps67
 go_wp2_with (first | ((with_reducible refine gate_dst (N := 2) rfl ?_); refine bE (N := 2) (cs := #[.bool a0_0, .int .u64 a0_1, .int .u64 a0_2]) (t := 100) ?_; intro gb101 hg w18 hbox hb; have BK101 := aM (hbox); have GW101 := gE hg HB; have GE101 := gE hg HB; replace HB := sB HB hb; clear hb hbox hg) | ((with_reducible refine gate_dst (N := 3) rfl ?_); refine bE (N := 3) (cs := #[.bool a1_0, .int .u64 a1_1, .int .u64 a1_2]) (t := 100) ?_; intro gb102 hg w19 hbox hb; have BK102 := aM (hbox); have GW102 := gE hg HB; have GE102 := gE hg HB; have NB101_102 := nL hg BK101; replace BK101 := bB BK101 hb; replace HB := sB HB hb; clear hb hbox hg) | ((with_reducible refine gate_dst (N := 4) rfl ?_); refine bE (N := 4) (cs := #[.int .i64 0, .int .i64 0]) (t := 43) ?_; intro gb103 hg w20 hbox hb; have BK103 := aM (hbox); have GW103 := gE hg HB; have GE103 := gE hg HB; have NB101_103 := nL hg BK101; have NB102_103 := nL hg BK102; replace BK101 := bB BK101 hb; replace BK102 := bB BK102 hb; replace HB := sB HB hb; clear hb hbox hg; have hnb21 := NB101_102.out; have hnc21 := NB101_102.out.symm; have hnb22 := NB101_103.out; have hnc22 := NB101_103.out.symm; obtain ⟨hcz23_0, hcz23_1, hcz23_2, hfz23_0, hfz23_1, hfz23_2⟩ := cZ3 BK101) | ((with_reducible refine gate_callee (f := 77) rfl ?_); refine gL (some 12) Try.func77 #[.agg #[.bool a0_0, .int .u64 a0_1, .int .u64 a0_2]] ?_; (with_reducible refine (rat_wide_number.calls k a0_0 a0_1 a0_2 t104 true _ A3.out).mono ?_); rintro e w24 ⟨rfl, hb⟩; refine ⟨_, rfl, ?_⟩; replace BK101 := bB BK101 hb; replace BK102 := bB BK102 hb; replace BK103 := bB BK103 hb; replace HB := sB HB hb; (try clear hb); have hnb25 := NB102_103.out; have hnc25 := NB102_103.out.symm; obtain ⟨hcz26_0, hcz26_1, hcz26_2, hfz26_0, hfz26_1, hfz26_2⟩ := cZ3 BK102) | ((with_reducible refine gate_callee (f := 77) rfl ?_); refine gL (some 17) Try.func77 #[.agg #[.bool a1_0, .int .u64 a1_1, .int .u64 a1_2]] ?_; (with_reducible refine (rat_wide_number.calls k a1_0 a1_1 a1_2 t106 false _ A4.out).mono ?_); rintro e w27 ⟨rfl, hb⟩; refine ⟨_, rfl, ?_⟩; replace BK101 := bB BK101 hb; replace BK102 := bB BK102 hb; replace BK103 := bB BK103 hb; replace HB := sB HB hb; (try clear hb); obtain ⟨hcz28_0, hcz28_1, hfz28_0, hfz28_1⟩ := cZ2 BK103))
 refine bodyPost_ret (results_ct rfl _ _ gb103 43 #[.int .i64 0, .int .i64 0] (0, 0) _ rfl (by refine bM ?_; refine blk_put (cs := #[.int .i64 0, .int .i64 0]) ?_ 1 _ rfl; refine bM ?_; refine blk_put (cs := #[.int .i64 0, .int .i64 0]) ?_ 0 _ rfl; exact bD BK103) Try.underlying43 rfl (by kernel_rfl)) rfl ?_
 exact ⟨by first | rfl | (simp [errW_none, errW_some] <;> rfl) | (simp [*, errW_none, errW_some] <;> rfl), sD HB⟩
end Go.Proofs.Ytfdoncgljohndaa.P
namespace Go.Proofs.Ytfdoncgljohndaa.P
open Go.Proofs.YtfdoncgljohndaaH Go.RowKit Go.Proofs.YtfdoncgljohndaaW.PrintWords Go.Proofs.YtfdoncgljohndaaW.PrintLast Go.Proofs.YtfdoncgljohndaaW.PrintMore
attribute [local go_sem] max2_int min2_int max_two min_two max_three min_three max_four min_four   -- for this text's walks alone
attribute [local go_sem] Go.Proofs.YtfdoncgljohndaaH.cell_set_map
def rat_New.f (k : Nat) (a0 : Int) (a1 : Int) : Option (Int × Int × Int) := if a1 = 0 then (some (0, 0, 20)) else (if a0 = 0 then ((rat_zero.f).bind fun bt102 => (some (bt102.1, bt102.2.1, bt102.2.2))) else ((rat_abs.f a0).bind fun t105 => ((rat_abs.f a1).bind fun t106 => ((rat_gcd.f k (([t105, t106] : List Int))).bind fun t110 => ((rat_abs.f a0).bind fun t111 => (if t110 = 0 then (none) else ((rat_abs.f a1).bind fun t112 => ((rat_made.f k ((decide (a0 < 0)) != (decide (a1 < 0))) 0 (IntKind.u64.wrap (Int.tdiv t111 t110)) false 0 (IntKind.u64.wrap (Int.tdiv t112 t110))).bind fun bt113 => (some (bt113.1, bt113.2.1, bt113.2.2))))))))))
def rat_New.T6 : Bool × List (List Nat × List Nat) := (true, [([], []), ([0], [0]), ([], []), ([2], [2]), ([1, 3], [1, 3]), ([], []), ([5], [5]), ([], []), ([6, 7], [6, 7]), ([4, 8], [4, 8]), ([], []), ([10, 6], [10]), ([], []), ([11, 12], [11, 12]), ([13], [13]), ([9, 14, 11], [9, 14]), ([15], [15]), ([15], [15]), ([16, 15, 0, 1, 2, 3, 4, 5, 6, 7, 8, 9, 10, 11, 12, 13, 14, 15, 16, 17], [16]), ([17, 18, 0, 1, 2, 3, 4, 5, 6, 7, 8, 9, 10, 11, 12, 13, 14, 15, 16, 17, 18], [17])])
def rat_New.B6 : List Nat := [0, 1, 0, 4, 15, 0, 32, 0, 224, 511, 0, 1120, 0, 7264, 15456, 32767, 65535, 65535, 262143, 524287]
theorem rat_New.tab6 : rtab .any (opsOf Try.f53 6) = rat_New.T6 := by kernel_rfl
theorem rat_New.bits6 : waitsOk rat_New.T6.2 rat_New.B6 = true := by kernel_rfl
set_option maxHeartbeats 40000000 in
set_option maxRecDepth 100000 in
theorem rat_New.calls (k : Nat) (a0 : Int) (a1 : Int) (r1 : Int) (r2 : Int) (r3 : Int) (w : World) (h : rat_New.f k a0 a1 = some (r1, r2, r3)) :
  Calls Try.prog 53 #[.int .i64 a0, .int .i64 a1] w fun e w' => e = .returned (.tuple #[.agg #[.int .i64 r1, .int .i64 r2], .int .i64 r3]) ∧ Below w.heap.size w w' := by
 have hu43 := Try.underlying43; have hu100 := Try.underlying100; have HB := aM (Below.refl w.heap.size w)
 have H : (if a1 = 0 then (some (0, 0, 20)) else (if a0 = 0 then ((rat_zero.f).bind fun bt102 => (some (bt102.1, bt102.2.1, bt102.2.2))) else ((rat_abs.f a0).bind fun t105 => ((rat_abs.f a1).bind fun t106 => ((rat_gcd.f k (([t105, t106] : List Int))).bind fun t110 => ((rat_abs.f a0).bind fun t111 => (if t110 = 0 then (none) else ((rat_abs.f a1).bind fun t112 => ((rat_made.f k ((decide (a0 < 0)) != (decide (a1 < 0))) 0 (IntKind.u64.wrap (Int.tdiv t111 t110)) false 0 (IntKind.u64.wrap (Int.tdiv t112 t110))).bind fun bt113 => (some (bt113.1, bt113.2.1, bt113.2.2))))))))))) = some (r1, r2, r3) := h
 clear h
 by_cases c3 : a1 = 0
 ·rw [if_pos c3] at H
  have c3b0 : (a1 == 0) = true := beq_iff_eq.mpr c3
  have c3b1 : (a1 != 0) = false := bne_eq_false_iff_eq.mpr c3
  clear c3
  simp only [Option.some.injEq, Prod.mk.injEq] at H
  obtain ⟨rfl, rfl, rfl⟩ := H
  go_enter Try.func53, Try.ntmps53
  go_wp2_with (first | ((with_reducible refine gate_dst (N := 4) rfl ?_); refine bE (N := 4) (cs := #[.int .i64 0, .int .i64 0]) (t := 43) ?_; intro gb101 hg w4 hbox hb; have BK101 := aM (hbox); have GW101 := gE hg HB; have GE101 := gE hg HB; replace HB := sB HB hb; clear hb hbox hg; obtain ⟨hcz5_0, hcz5_1, hfz5_0, hfz5_1⟩ := cZ2 BK101))
  refine bodyPost_ret (results_ct rfl _ _ gb101 43 #[.int .i64 0, .int .i64 0] (0, 0) _ rfl (by refine bM ?_; refine blk_put (cs := #[.int .i64 0, .int .i64 0]) ?_ 1 _ rfl; refine bM ?_; refine blk_put (cs := #[.int .i64 0, .int .i64 0]) ?_ 0 _ rfl; exact bD BK101) Try.underlying43 rfl (by kernel_rfl)) rfl ?_
  exact ⟨by first | rfl | (simp [errW_none, errW_some] <;> rfl) | (simp [*, errW_none, errW_some] <;> rfl), sD HB⟩
 rw [if_neg c3] at H
 have c3b0 : (a1 == 0) = false := beq_eq_false_iff_ne.mpr c3
 have c3b1 : (a1 != 0) = true := bne_iff_ne.mpr c3
 by_cases c6 : a0 = 0
 ·rw [if_pos c6] at H
  have c6b0 : (a0 == 0) = true := beq_iff_eq.mpr c6
  have c6b1 : (a0 != 0) = false := bne_eq_false_iff_eq.mpr c6
  clear c6; replace H := Option.bind_eq_some_iff.mp H
  obtain ⟨⟨t102, t103, t104⟩, A70, H⟩ := H
  replace H : (some (t102, t103, t104)) = some (r1, r2, r3) := H
  have A7 := aM A70; clear A70
  simp only [Option.some.injEq, Prod.mk.injEq] at H
  obtain ⟨rfl, rfl, rfl⟩ := H
  go_enter Try.func53, Try.ntmps53
  go_wp2_with (first | ((with_reducible refine gate_dst (N := 4) rfl ?_); refine bE (N := 4) (cs := #[.int .i64 0, .int .i64 0]) (t := 43) ?_; intro gb101 hg w8 hbox hb; have BK101 := aM (hbox); have GW101 := gE hg HB; have GE101 := gE hg HB; replace HB := sB HB hb; clear hb hbox hg) | ((with_reducible refine gate_callee (f := 65) rfl ?_); refine gL (some 12) Try.func65 #[] ?_; (with_reducible refine (rat_zero.calls  t102 t103 t104 _ A7.out).mono ?_); rintro e w9 ⟨rfl, hb⟩; refine ⟨_, rfl, ?_⟩; replace BK101 := bB BK101 hb; replace HB := sB HB hb; (try clear hb); obtain ⟨hcz10_0, hcz10_1, hfz10_0, hfz10_1⟩ := cZ2 BK101))
  refine bodyPost_ret (results_ct rfl _ _ gb101 43 #[.int .i64 t102, .int .i64 t103] (0, 0) _ rfl (by refine bM ?_; refine blk_put (cs := #[.int .i64 t102, .int .i64 0]) ?_ 1 _ rfl; refine bM ?_; refine blk_put (cs := #[.int .i64 0, .int .i64 0]) ?_ 0 _ rfl; exact bD BK101) Try.underlying43 rfl (by kernel_rfl)) rfl ?_
  exact ⟨by first | rfl | (simp [errW_none, errW_some] <;> rfl) | (simp [*, errW_none, errW_some] <;> rfl), sD HB⟩
 rw [if_neg c6] at H
 have c6b0 : (a0 == 0) = false := beq_eq_false_iff_ne.mpr c6
 have c6b1 : (a0 != 0) = true := bne_iff_ne.mpr c6
 replace H := Option.bind_eq_some_iff.mp H
 obtain ⟨t105, A110, H⟩ := H
 replace H : ((rat_abs.f a1).bind fun t106 => ((rat_gcd.f k (([t105, t106] : List Int))).bind fun t110 => ((rat_abs.f a0).bind fun t111 => (if t110 = 0 then (none) else ((rat_abs.f a1).bind fun t112 => ((rat_made.f k ((decide (a0 < 0)) != (decide (a1 < 0))) 0 (IntKind.u64.wrap (Int.tdiv t111 t110)) false 0 (IntKind.u64.wrap (Int.tdiv t112 t110))).bind fun bt113 => (some (bt113.1, bt113.2.1, bt113.2.2)))))))) = some (r1, r2, r3) := H
 have A11 := aM A110; clear A110; replace H := Option.bind_eq_some_iff.mp H
 obtain ⟨t106, A120, H⟩ := H
 replace H : ((rat_gcd.f k (([t105, t106] : List Int))).bind fun t110 => ((rat_abs.f a0).bind fun t111 => (if t110 = 0 then (none) else ((rat_abs.f a1).bind fun t112 => ((rat_made.f k ((decide (a0 < 0)) != (decide (a1 < 0))) 0 (IntKind.u64.wrap (Int.tdiv t111 t110)) false 0 (IntKind.u64.wrap (Int.tdiv t112 t110))).bind fun bt113 => (some (bt113.1, bt113.2.1, bt113.2.2))))))) = some (r1, r2, r3) := H
 have A12 := aM A120; clear A120
 obtain ⟨y107, hy107⟩ : ∃ y_ : List Int, y_ = (([t105, t106] : List Int)) := ⟨_, rfl⟩
 replace H : ((rat_gcd.f k y107).bind fun t110 => ((rat_abs.f a0).bind fun t111 => (if t110 = 0 then (none) else ((rat_abs.f a1).bind fun t112 => ((rat_made.f k ((decide (a0 < 0)) != (decide (a1 < 0))) 0 (IntKind.u64.wrap (Int.tdiv t111 t110)) false 0 (IntKind.u64.wrap (Int.tdiv t112 t110))).bind fun bt113 => (some (bt113.1, bt113.2.1, bt113.2.2))))))) = some (r1, r2, r3) := by first | (rw [hy107]; with_reducible exact H) | (have H2_ := (Option.bind_some _ _).symm.trans H; rw [hy107]; with_reducible exact H2_) | (have H2_ := (Option.bind_some _ _).symm.trans H; with_reducible exact H2_) | with_reducible exact H | (rw [hy107]; exact H) | exact H
 have Ny107 := aM hy107; clear hy107; replace H := Option.bind_eq_some_iff.mp H
 obtain ⟨t110, A130, H⟩ := H
 replace H : ((rat_abs.f a0).bind fun t111 => (if t110 = 0 then (none) else ((rat_abs.f a1).bind fun t112 => ((rat_made.f k ((decide (a0 < 0)) != (decide (a1 < 0))) 0 (IntKind.u64.wrap (Int.tdiv t111 t110)) false 0 (IntKind.u64.wrap (Int.tdiv t112 t110))).bind fun bt113 => (some (bt113.1, bt113.2.1, bt113.2.2)))))) = some (r1, r2, r3) := H
 have A13 := aM A130; clear A130; replace H := Option.bind_eq_some_iff.mp H
 obtain ⟨t111, A140, H⟩ := H
 replace H : (if t110 = 0 then (none) else ((rat_abs.f a1).bind fun t112 => ((rat_made.f k ((decide (a0 < 0)) != (decide (a1 < 0))) 0 (IntKind.u64.wrap (Int.tdiv t111 t110)) false 0 (IntKind.u64.wrap (Int.tdiv t112 t110))).bind fun bt113 => (some (bt113.1, bt113.2.1, bt113.2.2))))) = some (r1, r2, r3) := H
 have A14 := aM A140; clear A140
 by_cases c15 : t110 = 0
 ·rw [if_pos c15] at H
  exact absurd H (by simp)
 rw [if_neg c15] at H
 have c15b0 : (t110 == 0) = false := beq_eq_false_iff_ne.mpr c15
 have c15b1 : (t110 != 0) = true := bne_iff_ne.mpr c15
 replace H := Option.bind_eq_some_iff.mp H
 obtain ⟨t112, A160, H⟩ := H
 replace H : ((rat_made.f k ((decide (a0 < 0)) != (decide (a1 < 0))) 0 (IntKind.u64.wrap (Int.tdiv t111 t110)) false 0 (IntKind.u64.wrap (Int.tdiv t112 t110))).bind fun bt113 => (some (bt113.1, bt113.2.1, bt113.2.2))) = some (r1, r2, r3) := H
 have A16 := aM A160; clear A160; replace H := Option.bind_eq_some_iff.mp H
 obtain ⟨⟨t113, t114, t115⟩, A170, H⟩ := H
 replace H : (some (t113, t114, t115)) = some (r1, r2, r3) := H
 have A17 := aM A170; clear A170
 simp only [Option.some.injEq, Prod.mk.injEq] at H
 obtain ⟨rfl, rfl, rfl⟩ := H
 go_enter Try.func53, Try.ntmps53
 try go_wp2_with (first | ((with_reducible refine gate_dst (N := 4) rfl ?_); refine bE (N := 4) (cs := #[.int .i64 0, .int .i64 0]) (t := 43) ?_; intro gb101 hg w18 hbox hb; have BK101 := aM (hbox); have GW101 := gE hg HB; have GE101 := gE hg HB; replace HB := sB HB hb; clear hb hbox hg) | ((with_reducible refine gate_callee (f := 59) rfl ?_); refine gL (some 16) Try.func59 #[.int .i64 a0] ?_; (with_reducible refine (rat_abs.calls a0 t105 _ A11.out).mono ?_); rintro e w' ⟨rfl, ⟨nd, rfl⟩⟩; refine ⟨_, rfl, ?_⟩; (try (rw [drewN_self w18]; generalize hq_ : World.drewN w18 _ = w18; have n0_ : Aside0 (w18.heap[gb101]? = some (.cells #[.int .i64 0, .int .i64 0] 43 (0, 0))) := ⟨by rw [← hq_]; exact (bD BK101)⟩; have n1_ : Aside0 (Below w.heap.size w w18) := ⟨by rw [← hq_]; exact (sD HB)⟩; clear BK101 HB hq_; have BK101 := n0_; have HB := n1_; clear n0_ n1_))) | ((with_reducible refine gate_callee (f := 59) rfl ?_); refine gL (some 18) Try.func59 #[.int .i64 a1] ?_; (with_reducible refine (rat_abs.calls a1 t106 _ A12.out).mono ?_); rintro e w' ⟨rfl, ⟨nd, rfl⟩⟩; refine ⟨_, rfl, ?_⟩; (try (rw [drewN_self w18]; generalize hq_ : World.drewN w18 _ = w18; have n0_ : Aside0 (w18.heap[gb101]? = some (.cells #[.int .i64 0, .int .i64 0] 43 (0, 0))) := ⟨by rw [← hq_]; exact (bD BK101)⟩; have n1_ : Aside0 (Below w.heap.size w w18) := ⟨by rw [← hq_]; exact (sD HB)⟩; clear BK101 HB hq_; have BK101 := n0_; have HB := n1_; clear n0_ n1_))) | ((with_reducible refine gate_dst (N := 19) rfl ?_); refine Kd.R_lit (Kd.int .u64) _ 26 ?hg (N := 19) ?hd (xs := ([t105, t106] : List Int)) (inner := [.int .u64 t105, .int .u64 t106]) (ok := fun _ => True) (okp := fun _ => True) ?hr ?hp (fun _ hk => hk) trivial (Below.refl _ _) (Nat.le_refl _) (by simp) ?_; (case hd => rfl); (case hg => rfl); (case hr => first | (go_simp; done) | (go_simp; rfl)); (case hp => exact (Reps.one (show Kd.M (Kd.int .u64) _ _ _ t105 [.int .u64 t105] from rfl) (Reps.one (show Kd.M (Kd.int .u64) _ _ _ t106 [.int .u64 t106] from rfl) (Reps.none _ _)))); intro v108 w19 ho20 hb hg_ hnew_; clear hg_ hnew_; (first | rw [← Ny107.out] at ho20 | (simp only [Int.reduceToNat] at ho20; rw [← Ny107.out] at ho20)); have HO109 := rL (n := 0) ho20 HB; replace BK101 := bB BK101 hb; replace HB := sB HB hb; clear hb ho20; obtain ⟨Ao21, co21, eo21⟩ := Kd.R_slice HO109.out; subst eo21) | ((with_reducible refine gate_callee (f := 63) rfl ?_); refine gL (some 20) Try.func63 #[.slice Ao21 y107.length co21] ?_; (with_reducible refine (rat_gcd.calls k _ _ y107 t110 _ ?side1 ?side2 A13.out).mono ?_); (case side1 => exact rC HO109); (case side2 => exact rN HO109); rintro e w' ⟨rfl, ⟨nd, rfl⟩⟩; refine ⟨_, rfl, ?_⟩; (try (rw [drewN_self w19]; generalize hq_ : World.drewN w19 _ = w19; have n0_ : Aside0 (Kd.R (Kd.int .u64) 26 w19 w.heap.size (fun _ => True) (.slice Ao21 y107.length co21) y107) := ⟨by rw [← hq_]; exact (rD HO109)⟩; have n1_ : Aside0 (w19.heap[gb101]? = some (.cells #[.int .i64 0, .int .i64 0] 43 (0, 0))) := ⟨by rw [← hq_]; exact (bD BK101)⟩; have n2_ : Aside0 (Below w.heap.size w w19) := ⟨by rw [← hq_]; exact (sD HB)⟩; clear HO109 BK101 HB hq_; have HO109 := n0_; have BK101 := n1_; have HB := n2_; clear n0_ n1_ n2_))))
 replace HO109 := aM (Kd.R_drew HO109.out); replace BK101 := aM (blk_drew BK101.out); replace HB := aM (below_drew1 HB.out)
 refine start_ (n := 20) (S := fun w' => True) (ds := []) #[false, false, false, false, false, false, false, false, false, false, false, false, false, false, false, false, false, false, false, false] (by kernel_rfl) rfl rfl trivial (fun hHeld => ?_); refine with_tabW rat_New.tab6 rat_New.bits6 (fun HT_ HW_ => ?_)
 generalize w19.drew = w22 at HO109 BK101 HB hHeld ⊢
 refine pX (i := 0) (N := some 21) rfl rfl HT_ ?_
 refine pX (i := 1) (N := some 22) rfl rfl HT_ ?_
 refine pX (i := 2) (N := some 23) rfl rfl HT_ ?_
 refine pX (i := 3) (N := some 24) rfl rfl HT_ ?_
 refine pX (i := 4) (N := some 25) rfl rfl HT_ ?_
 refine pX (i := 5) (N := some 26) rfl rfl HT_ ?_
 refine pX (i := 7) (N := some 28) rfl rfl HT_ ?_
 refine pX (i := 10) (N := some 31) rfl rfl HT_ ?_
 refine pX (i := 12) (N := some 33) rfl rfl HT_ ?_
 refine oX (i := 6) (N := some 27) rfl rfl HT_ (fun K hK => ?_)
 refine gS Try.func59 #[.int .i64 a0] ?_
 with_reducible refine (rat_abs.calls a0 t111 _ A14.out).mono ?_
 rintro e w' ⟨rfl, ⟨nd, rfl⟩⟩
 refine ⟨_, rfl, ?_⟩
 refine hK.out _ _ trivial (fun hHeld => ?_)
 clear hK K
 refine nX (some 27) ?_
 refine pX (i := 8) (N := some 29) rfl rfl HT_ ?_
 refine pX (i := 9) (N := some 30) rfl rfl HT_ ?_
 refine oX (i := 11) (N := some 32) rfl rfl HT_ (fun K hK => ?_)
 refine gS Try.func59 #[.int .i64 a1] ?_
 with_reducible refine (rat_abs.calls a1 t112 _ A16.out).mono ?_
 rintro e w' ⟨rfl, ⟨nd, rfl⟩⟩
 refine ⟨_, rfl, ?_⟩
 refine hK.out _ _ trivial (fun hHeld => ?_)
 clear hK K
 refine nX (some 32) ?_
 refine pX (i := 13) (N := some 34) rfl rfl HT_ ?_
 refine pX (i := 14) (N := some 35) rfl rfl HT_ ?_
 refine oX (i := 15) (N := some 36) rfl rfl HT_ (fun K hK => ?_)
 refine gS Try.func67 #[.agg #[.bool ((decide (a0 < 0)) != (decide (a1 < 0))), .int .u64 0, .int .u64 (IntKind.u64.wrap (Int.tdiv t111 t110))], .agg #[.bool false, .int .u64 0, .int .u64 (IntKind.u64.wrap (Int.tdiv t112 t110))]] ?_
 with_reducible refine (rat_made.calls k ((decide (a0 < 0)) != (decide (a1 < 0))) 0 (IntKind.u64.wrap (Int.tdiv t111 t110)) false 0 (IntKind.u64.wrap (Int.tdiv t112 t110)) t113 t114 t115 _ A17.out).mono ?_
 rintro e w23 ⟨rfl, hb⟩
 refine ⟨_, rfl, ?_⟩
 replace HO109 := rB HO109 hb; replace BK101 := bB BK101 hb; replace HB := sB HB hb; (try clear hb); (try clear hb2); (try clear hk); (try clear hi)
 refine hK.out _ _ trivial (fun hHeld => ?_)
 clear hK K
 refine nX (some 36) ?_
 refine pX (i := 16) (N := some 37) rfl rfl HT_ ?_
 refine pX (i := 17) (N := some 38) rfl rfl HT_ ?_
 refine oX (i := 18) (N := none) rfl rfl HT_ (fun K hK => ?_)
 have hs24 : w23.cell? ⟨gb101, 0, none⟩ = some (.int .i64 0) := (blk_cell BK101.out 0).trans rfl
 have hfs24 := blk_frozen BK101.out 0
 have hs25 : w23.cell? ⟨gb101, 1, none⟩ = some (.int .i64 0) := (blk_cell BK101.out 1).trans rfl
 have hfs25 := blk_frozen BK101.out 1
 refine skip_ (w1 := ?_) (by rfl) rfl ?_ ?_
 rotate_left
 ·go_simp
  rfl
 refine hK.out _ _ trivial (fun hHeld => ?_)
 clear hK K
 refine pX (i := 19) (N := some 5) rfl rfl HT_ ?_
 refine done_ (done_of HT_.out (by kernel_rfl)) ?_
 try go_wp2
 refine bodyPost_ret (results_ct rfl _ _ gb101 43 #[.int .i64 t113, .int .i64 t114] (0, 0) _ rfl (by refine bM ?_; refine blk_put (cs := #[.int .i64 t113, .int .i64 0]) ?_ 1 _ rfl; refine bM ?_; refine blk_put (cs := #[.int .i64 0, .int .i64 0]) ?_ 0 _ rfl; exact bD BK101) Try.underlying43 rfl (by kernel_rfl)) rfl ?_
 exact ⟨by first | rfl | (simp [errW_none, errW_some] <;> rfl) | (simp [*, errW_none, errW_some] <;> rfl), sD HB⟩
end Go.Proofs.Ytfdoncgljohndaa.P
namespace Go.Proofs.Ytfdoncgljohndaa.P
open Go.Proofs.YtfdoncgljohndaaH Go.RowKit Go.Proofs.YtfdoncgljohndaaW.PrintWords Go.Proofs.YtfdoncgljohndaaW.PrintLast Go.Proofs.YtfdoncgljohndaaW.PrintMore
attribute [local go_sem] max2_int min2_int max_two min_two max_three min_three max_four min_four   -- for this text's walks alone
attribute [local go_sem] Go.Proofs.YtfdoncgljohndaaH.cell_set_map
def field_Bound.f (k : Nat) (a0_0 : Int) (a0_1 : Int) (a0_2 : Int) (a0_3 : Int) (a0_4 : Int) (a0_5 : Int) : Option (Int × Int × Int) := if a0_4 = 0 then (if a0_3 = a0_2 then ((rat_New.f k 0 1).bind fun bt103 => (some (bt103.1, bt103.2.1, bt103.2.2))) else ((rat_New.f k 19 (mx 19 a0_3)).bind fun bt106 => (some (bt106.1, bt106.2.1, bt106.2.2)))) else (some (0, 0, 320))
set_option maxHeartbeats 40000000 in
set_option maxRecDepth 100000 in
theorem field_Bound.calls (k : Nat) (a0_0 : Int) (a0_1 : Int) (a0_2 : Int) (a0_3 : Int) (a0_4 : Int) (a0_5 : Int) (r1 : Int) (r2 : Int) (r3 : Int) (w : World) (h : field_Bound.f k a0_0 a0_1 a0_2 a0_3 a0_4 a0_5 = some (r1, r2, r3)) :
  Calls Try.prog 38 #[.agg #[.int .i64 a0_0, .int .i64 a0_1, .int .i64 a0_2, .int .i64 a0_3, .int .i64 a0_4, .int .i64 a0_5]] w fun e w' => e = .returned (.tuple #[.agg #[.int .i64 r1, .int .i64 r2], .int .i64 r3]) ∧ Below w.heap.size w w' := by
 have hu40 := Try.underlying40; have hu43 := Try.underlying43; have HB := aM (Below.refl w.heap.size w)
 have H : (if a0_4 = 0 then (if a0_3 = a0_2 then ((rat_New.f k 0 1).bind fun bt103 => (some (bt103.1, bt103.2.1, bt103.2.2))) else ((rat_New.f k 19 (mx 19 a0_3)).bind fun bt106 => (some (bt106.1, bt106.2.1, bt106.2.2)))) else (some (0, 0, 320))) = some (r1, r2, r3) := h
 clear h
 by_cases c2 : a0_4 = 0
 rotate_left
 ·rw [if_neg c2] at H
  have c2b0 : (a0_4 == 0) = false := beq_eq_false_iff_ne.mpr c2
  have c2b1 : (a0_4 != 0) = true := bne_iff_ne.mpr c2
  simp only [Option.some.injEq, Prod.mk.injEq] at H
  obtain ⟨rfl, rfl, rfl⟩ := H
  go_enter Try.func38, Try.ntmps38
  go_wp2_with (first | ((with_reducible refine gate_dst (N := 1) rfl ?_); refine bE (N := 1) (cs := #[.int .i64 a0_0, .int .i64 a0_1, .int .i64 a0_2, .int .i64 a0_3, .int .i64 a0_4, .int .i64 a0_5]) (t := 40) ?_; intro gb101 hg w19 hbox hb; have BK101 := aM (hbox); have GW101 := gE hg HB; have GE101 := gE hg HB; replace HB := sB HB hb; clear hb hbox hg) | ((with_reducible refine gate_dst (N := 2) rfl ?_); refine bE (N := 2) (cs := #[.int .i64 0, .int .i64 0]) (t := 43) ?_; intro gb102 hg w20 hbox hb; have BK102 := aM (hbox); have GW102 := gE hg HB; have GE102 := gE hg HB; have NB101_102 := nL hg BK101; replace BK101 := bB BK101 hb; replace HB := sB HB hb; clear hb hbox hg; have hnb21 := NB101_102.out; have hnc21 := NB101_102.out.symm; obtain ⟨hcz22_0, hcz22_1, hcz22_2, hcz22_3, hcz22_4, hcz22_5, hfz22_0, hfz22_1, hfz22_2, hfz22_3, hfz22_4, hfz22_5⟩ := cZ6 BK101; obtain ⟨hcz23_0, hcz23_1, hfz23_0, hfz23_1⟩ := cZ2 BK102))
  refine bodyPost_ret (results_ct rfl _ _ gb102 43 #[.int .i64 0, .int .i64 0] (0, 0) _ rfl (by refine bM ?_; refine blk_put (cs := #[.int .i64 0, .int .i64 0]) ?_ 1 _ rfl; refine bM ?_; refine blk_put (cs := #[.int .i64 0, .int .i64 0]) ?_ 0 _ rfl; exact bD BK102) Try.underlying43 rfl (by kernel_rfl)) rfl ?_
  exact ⟨by first | rfl | (simp [errW_none, errW_some] <;> rfl) | (simp [*, errW_none, errW_some] <;> rfl), sD HB⟩
 rw [if_pos c2] at H
 have c2b0 : (a0_4 == 0) = true := beq_iff_eq.mpr c2
 have c2b1 : (a0_4 != 0) = false := bne_eq_false_iff_eq.mpr c2
 clear c2
 by_cases c3 : a0_3 = a0_2
 ·rw [if_pos c3] at H
  have c3b0 : (a0_3 == a0_2) = true := beq_iff_eq.mpr c3
  have c3b1 : (a0_3 != a0_2) = false := bne_eq_false_iff_eq.mpr c3
  clear c3; replace H := Option.bind_eq_some_iff.mp H
  obtain ⟨⟨t103, t104, t105⟩, A40, H⟩ := H
  replace H : (some (t103, t104, t105)) = some (r1, r2, r3) := H
  have A4 := aM A40; clear A40
  simp only [Option.some.injEq, Prod.mk.injEq] at H
  obtain ⟨rfl, rfl, rfl⟩ := H
  go_enter Try.func38, Try.ntmps38
  go_wp2_with (first | ((with_reducible refine gate_dst (N := 1) rfl ?_); refine bE (N := 1) (cs := #[.int .i64 a0_0, .int .i64 a0_1, .int .i64 a0_2, .int .i64 a0_3, .int .i64 a0_4, .int .i64 a0_5]) (t := 40) ?_; intro gb101 hg w5 hbox hb; have BK101 := aM (hbox); have GW101 := gE hg HB; have GE101 := gE hg HB; replace HB := sB HB hb; clear hb hbox hg) | ((with_reducible refine gate_dst (N := 2) rfl ?_); refine bE (N := 2) (cs := #[.int .i64 0, .int .i64 0]) (t := 43) ?_; intro gb102 hg w6 hbox hb; have BK102 := aM (hbox); have GW102 := gE hg HB; have GE102 := gE hg HB; have NB101_102 := nL hg BK101; replace BK101 := bB BK101 hb; replace HB := sB HB hb; clear hb hbox hg; have hnb7 := NB101_102.out; have hnc7 := NB101_102.out.symm; obtain ⟨hcz8_0, hcz8_1, hcz8_2, hcz8_3, hcz8_4, hcz8_5, hfz8_0, hfz8_1, hfz8_2, hfz8_3, hfz8_4, hfz8_5⟩ := cZ6 BK101) | ((with_reducible refine gate_callee (f := 53) rfl ?_); refine gL (some 15) Try.func53 #[.int .i64 0, .int .i64 1] ?_; (with_reducible refine (rat_New.calls k 0 1 t103 t104 t105 _ A4.out).mono ?_); rintro e w9 ⟨rfl, hb⟩; refine ⟨_, rfl, ?_⟩; replace BK101 := bB BK101 hb; replace BK102 := bB BK102 hb; replace HB := sB HB hb; (try clear hb); obtain ⟨hcz10_0, hcz10_1, hfz10_0, hfz10_1⟩ := cZ2 BK102))
  refine bodyPost_ret (results_ct rfl _ _ gb102 43 #[.int .i64 t103, .int .i64 t104] (0, 0) _ rfl (by refine bM ?_; refine blk_put (cs := #[.int .i64 t103, .int .i64 0]) ?_ 1 _ rfl; refine bM ?_; refine blk_put (cs := #[.int .i64 0, .int .i64 0]) ?_ 0 _ rfl; exact bD BK102) Try.underlying43 rfl (by kernel_rfl)) rfl ?_
  exact ⟨by first | rfl | (simp [errW_none, errW_some] <;> rfl) | (simp [*, errW_none, errW_some] <;> rfl), sD HB⟩
 rw [if_neg c3] at H
 have c3b0 : (a0_3 == a0_2) = false := beq_eq_false_iff_ne.mpr c3
 have c3b1 : (a0_3 != a0_2) = true := bne_iff_ne.mpr c3
 obtain ⟨ji11, hji11⟩ : ∃ j_ : Int, (mx 19 a0_3) = j_ := ⟨_, rfl⟩
 replace H : ((rat_New.f k 19 (ji11)).bind fun bt106 => (some (bt106.1, bt106.2.1, bt106.2.2))) = some (r1, r2, r3) := by first | (rw [hji11] at H; exact H) | (simp only [hji11] at H ⊢; exact H)
 (try (have hji11l : 19 ≤ ji11 := by (rw [← hji11]; unfold mx; (repeat' split) <;> omega)))
 (try (have hji11m : 0 ≤ ji11 := by omega))
 have hji11_ : (if 19 < a0_3 then a0_3 else 19) = ji11 := hji11
 replace H := Option.bind_eq_some_iff.mp H
 obtain ⟨⟨t106, t107, t108⟩, A120, H⟩ := H
 replace H : (some (t106, t107, t108)) = some (r1, r2, r3) := H
 have A12 := aM A120; clear A120
 simp only [Option.some.injEq, Prod.mk.injEq] at H
 obtain ⟨rfl, rfl, rfl⟩ := H
 go_enter Try.func38, Try.ntmps38
 go_wp2_with (first | ((with_reducible refine gate_dst (N := 1) rfl ?_); refine bE (N := 1) (cs := #[.int .i64 a0_0, .int .i64 a0_1, .int .i64 a0_2, .int .i64 a0_3, .int .i64 a0_4, .int .i64 a0_5]) (t := 40) ?_; intro gb101 hg w13 hbox hb; have BK101 := aM (hbox); have GW101 := gE hg HB; have GE101 := gE hg HB; replace HB := sB HB hb; clear hb hbox hg) | ((with_reducible refine gate_dst (N := 2) rfl ?_); refine bE (N := 2) (cs := #[.int .i64 0, .int .i64 0]) (t := 43) ?_; intro gb102 hg w14 hbox hb; have BK102 := aM (hbox); have GW102 := gE hg HB; have GE102 := gE hg HB; have NB101_102 := nL hg BK101; replace BK101 := bB BK101 hb; replace HB := sB HB hb; clear hb hbox hg; have hnb15 := NB101_102.out; have hnc15 := NB101_102.out.symm; obtain ⟨hcz16_0, hcz16_1, hcz16_2, hcz16_3, hcz16_4, hcz16_5, hfz16_0, hfz16_1, hfz16_2, hfz16_3, hfz16_4, hfz16_5⟩ := cZ6 BK101) | ((with_reducible refine gate_callee (f := 53) rfl ?_); refine gL (some 21) Try.func53 #[.int .i64 19, .int .i64 ji11] ?_ (hargs := by (try simp only [List.map_toArray, List.map_cons, List.map_nil]); first | done | (simp only [hji11]; rfl) | rfl); (with_reducible refine (rat_New.calls k 19 ji11 t106 t107 t108 _ A12.out).mono ?_); rintro e w17 ⟨rfl, hb⟩; refine ⟨_, rfl, ?_⟩; replace BK101 := bB BK101 hb; replace BK102 := bB BK102 hb; replace HB := sB HB hb; (try clear hb); obtain ⟨hcz18_0, hcz18_1, hfz18_0, hfz18_1⟩ := cZ2 BK102))
 refine bodyPost_ret (results_ct rfl _ _ gb102 43 #[.int .i64 t106, .int .i64 t107] (0, 0) _ rfl (by refine bM ?_; refine blk_put (cs := #[.int .i64 t106, .int .i64 0]) ?_ 1 _ rfl; refine bM ?_; refine blk_put (cs := #[.int .i64 0, .int .i64 0]) ?_ 0 _ rfl; exact bD BK102) Try.underlying43 rfl (by kernel_rfl)) rfl ?_
 exact ⟨by first | rfl | (simp [errW_none, errW_some] <;> rfl) | (simp only [← hji11]; first | rfl | (simp [errW_none, errW_some] <;> rfl)) | (simp [*, errW_none, errW_some] <;> rfl), sD HB⟩
end Go.Proofs.Ytfdoncgljohndaa.P
namespace Go.Proofs.Ytfdoncgljohndaa.P
open Go.Proofs.YtfdoncgljohndaaH Go.RowKit Go.Proofs.YtfdoncgljohndaaW.PrintWords Go.Proofs.YtfdoncgljohndaaW.PrintLast Go.Proofs.YtfdoncgljohndaaW.PrintMore
attribute [local go_sem] max2_int min2_int max_two min_two max_three min_three max_four min_four   -- for this text's walks alone
attribute [local go_sem] Go.Proofs.YtfdoncgljohndaaH.cell_set_map
def parolelaw32_bound.f (k : Nat) (a0_0 : Int) (a0_1 : Int) (a0_2 : Int) (a0_3 : Int) (a0_4 : Int) (a0_5 : Int) : Option (Int × Int × Int) := (field_Bound.f k a0_0 a0_1 a0_2 a0_3 a0_4 a0_5).bind fun bt103 => (some (bt103.1, bt103.2.1, bt103.2.2))
set_option maxHeartbeats 40000000 in
set_option maxRecDepth 100000 in
theorem parolelaw32_bound.calls (k : Nat) (a0_0 : Int) (a0_1 : Int) (a0_2 : Int) (a0_3 : Int) (a0_4 : Int) (a0_5 : Int) (r1 : Int) (r2 : Int) (r3 : Int) (w : World) (h : parolelaw32_bound.f k a0_0 a0_1 a0_2 a0_3 a0_4 a0_5 = some (r1, r2, r3)) :
  Calls Try.prog 21 #[.agg #[.int .i64 a0_0, .int .i64 a0_1, .int .i64 a0_2, .int .i64 a0_3, .int .i64 a0_4, .int .i64 a0_5]] w fun e w' => e = .returned (.agg #[.int .i64 r1, .int .i64 r2, .int .i64 r3]) ∧ Below w.heap.size w w' := by
 have hu40 := Try.underlying40; have hu45 := Try.underlying45; have hu43 := Try.underlying43; have HB := aM (Below.refl w.heap.size w)
 have H : ((field_Bound.f k a0_0 a0_1 a0_2 a0_3 a0_4 a0_5).bind fun bt103 => (some (bt103.1, bt103.2.1, bt103.2.2))) = some (r1, r2, r3) := h
 clear h; replace H := Option.bind_eq_some_iff.mp H
 obtain ⟨⟨t103, t104, t105⟩, A20, H⟩ := H
 replace H : (some (t103, t104, t105)) = some (r1, r2, r3) := H
 have A2 := aM A20; clear A20
 simp only [Option.some.injEq, Prod.mk.injEq] at H
 obtain ⟨rfl, rfl, rfl⟩ := H
 go_enter Try.func21, Try.ntmps21
 go_wp2_with (first | ((with_reducible refine gate_dst (N := 1) rfl ?_); refine bE (N := 1) (cs := #[.int .i64 a0_0, .int .i64 a0_1, .int .i64 a0_2, .int .i64 a0_3, .int .i64 a0_4, .int .i64 a0_5]) (t := 40) ?_; intro gb101 hg w3 hbox hb; have BK101 := aM (hbox); have GW101 := gE hg HB; have GE101 := gE hg HB; replace HB := sB HB hb; clear hb hbox hg) | ((with_reducible refine gate_dst (N := 2) rfl ?_); refine bE (N := 2) (cs := #[.int .i64 0, .int .i64 0, .int .i64 0]) (t := 45) ?_; intro gb102 hg w4 hbox hb; have BK102 := aM (hbox); have GW102 := gE hg HB; have GE102 := gE hg HB; have NB101_102 := nL hg BK101; replace BK101 := bB BK101 hb; replace HB := sB HB hb; clear hb hbox hg; have hnb5 := NB101_102.out; have hnc5 := NB101_102.out.symm; obtain ⟨hcz6_0, hcz6_1, hcz6_2, hcz6_3, hcz6_4, hcz6_5, hfz6_0, hfz6_1, hfz6_2, hfz6_3, hfz6_4, hfz6_5⟩ := cZ6 BK101) | ((with_reducible refine gate_callee (f := 38) rfl ?_); refine gL (some 7) Try.func38 #[.agg #[.int .i64 a0_0, .int .i64 a0_1, .int .i64 a0_2, .int .i64 a0_3, .int .i64 a0_4, .int .i64 a0_5]] ?_; (with_reducible refine (field_Bound.calls k a0_0 a0_1 a0_2 a0_3 a0_4 a0_5 t103 t104 t105 _ A2.out).mono ?_); rintro e w7 ⟨rfl, hb⟩; refine ⟨_, rfl, ?_⟩; replace BK101 := bB BK101 hb; replace BK102 := bB BK102 hb; replace HB := sB HB hb; (try clear hb)) | ((with_reducible refine gate_dst (N := 3) rfl ?_); refine bE (N := 3) (cs := #[.int .i64 0, .int .i64 0]) (t := 43) ?_; intro gb106 hg w8 hbox hb; have BK106 := aM (hbox); have GW106 := gE hg HB; have GE106 := gE hg HB; have NB101_106 := nL hg BK101; have NB102_106 := nL hg BK102; replace BK101 := bB BK101 hb; replace BK102 := bB BK102 hb; replace HB := sB HB hb; clear hb hbox hg; have hnb9 := NB101_106.out.symm; have hnc9 := NB101_106.out; have hnb10 := NB102_106.out.symm; have hnc10 := NB102_106.out; obtain ⟨hcz11_0, hcz11_1, hfz11_0, hfz11_1⟩ := cZ2 BK106; obtain ⟨hcz12_0, hcz12_1, hcz12_2, hfz12_0, hfz12_1, hfz12_2⟩ := cZ3 BK102))
 refine bodyPost_ret (results_cell_row rfl _ _ gb102 45 #[.int .i64 t103, .int .i64 t104, .int .i64 t105] (0, 0) _ rfl (by refine bM ?_; refine blk_put (cs := #[.int .i64 t103, .int .i64 t104, .int .i64 0]) ?_ 2 _ rfl; refine bM ?_; refine blk_put (cs := #[.int .i64 t103, .int .i64 0, .int .i64 0]) ?_ 1 _ rfl; refine bM ?_; refine blk_put (cs := #[.int .i64 0, .int .i64 0, .int .i64 0]) ?_ 0 _ rfl; refine bM ?_; refine blk_far ?_ NB102_106.out _; refine bM ?_; refine blk_far ?_ NB102_106.out _; exact bD BK102) Try.underlying45 rfl (by kernel_rfl)) rfl ?_
 exact ⟨by first | rfl | (simp [errW_none, errW_some] <;> rfl) | (simp [*, errW_none, errW_some] <;> rfl), sD HB⟩
end Go.Proofs.Ytfdoncgljohndaa.P
namespace Go.Fld
open Go
/-- Each element once, in the order in which it came. -/
def nub (l : List Int) : List Int := l.foldl (fun acc x => if x ∈ acc then acc else acc ++ [x]) []
theorem nub_snoc (l : List Int) (x : Int) : nub (l ++ [x]) = if x ∈ nub l then nub l else nub l ++ [x] := by unfold nub; rw [List.foldl_append]; rfl
theorem snoc_ind {α : Type} {P : List α → Prop} (h0 : P []) (h1 : ∀ l x, P l → P (l ++ [x])) : ∀ l, P l := by
 intro l
 have : ∀ n (l : List α), l.length = n → P l := by
  intro n
  induction n with
  | zero => intro l hl; obtain rfl := List.eq_nil_of_length_eq_zero hl; exact h0
  | succ n ih =>
   intro l hl
   have hne : l ≠ [] := by intro h; subst h; simp at hl
   rw [← List.dropLast_concat_getLast hne]
   exact h1 _ _ (ih _ (by simp [hl]))
 exact this _ l rfl
theorem mem_nub (x : Int) (l : List Int) : x ∈ nub l ↔ x ∈ l := by
 revert x
 induction l using snoc_ind with
 | h0 => intro x; simp [nub]
 | h1 l y ih =>
  intro x
  rw [nub_snoc]
  split
  ·rename_i h
   rw [ih]
   rw [ih] at h
   simp only [List.mem_append, List.mem_singleton]
   constructor
   ·exact .inl
   ·rintro (h1 | rfl)
    ·exact h1
    ·exact h
  ·simp [ih]
theorem nodup_nub (l : List Int) : (nub l).Nodup := by
 induction l using snoc_ind with
 | h0 => simp [nub]
 | h1 l y ih =>
  rw [nub_snoc]
  split
  ·exact ih
  ·rename_i h
   rw [List.nodup_append]
   exact ⟨ih, by simp, fun a ha b hb => by simp at hb; subst hb; rintro rfl; exact h ha⟩
theorem length_nub_le (l : List Int) : (nub l).length ≤ l.length := by
 induction l using snoc_ind with
 | h0 => simp [nub]
 | h1 l y ih =>
  rw [nub_snoc]
  split
  ·simp; omega
  ·simp; omega
theorem nodup_length_le : ∀ (l1 l2 : List Int), l1.Nodup → (∀ x ∈ l1, x ∈ l2) → l1.length ≤ l2.length
 | [], _, _, _ => by simp
 | x :: l1, l2, h, hs => by
  have hx : x ∈ l2 := hs x (by simp)
  obtain ⟨hn, h1⟩ := List.nodup_cons.1 h
  have := nodup_length_le l1 (l2.erase x) h1 (fun y hy => (List.mem_erase_of_ne (by rintro rfl; exact hn hy)).2 (hs y (by simp [hy])))
  rw [List.length_erase_of_mem hx] at this
  have : 0 < l2.length := List.length_pos_of_mem hx
  simp only [List.length_cons]
  omega
theorem nub_length_congr {l l' : List Int} (h : ∀ x, x ∈ l ↔ x ∈ l') : (nub l).length = (nub l').length :=
 Nat.le_antisymm (nodup_length_le _ _ (nodup_nub l) fun x hx => (mem_nub x l').2 ((h x).1 ((mem_nub x l).1 hx))) (nodup_length_le _ _ (nodup_nub l') fun x hx => (mem_nub x l).2 ((h x).2 ((mem_nub x l').1 hx)))
/-- The greatest one, or 0. -/
def maxs (l : List Int) : Int := l.foldl max 0
theorem maxs_snoc (l : List Int) (x : Int) : maxs (l ++ [x]) = max (maxs l) x := by simp [maxs, List.foldl_append]
theorem maxs_le_iff (l : List Int) (b : Int) : maxs l ≤ b ↔ 0 ≤ b ∧ ∀ x ∈ l, x ≤ b := by
 induction l using snoc_ind with
 | h0 => simp [maxs]
 | h1 l y ih =>
  rw [maxs_snoc, Int.max_le, ih]
  constructor
  ·rintro ⟨⟨h0, h1⟩, h2⟩
   exact ⟨h0, fun x hx => by simp at hx; rcases hx with hx | rfl; exact h1 x hx; exact h2⟩
  ·rintro ⟨h0, h1⟩
   exact ⟨⟨h0, fun x hx => h1 x (by simp [hx])⟩, h1 y (by simp)⟩
theorem maxs_nonneg (l : List Int) : 0 ≤ maxs l := ((maxs_le_iff l (maxs l)).1 (Int.le_refl _)).1
theorem le_maxs {l : List Int} {x : Int} (h : x ∈ l) : x ≤ maxs l := ((maxs_le_iff l (maxs l)).1 (Int.le_refl _)).2 x h
theorem maxs_mono {l l' : List Int} (h : ∀ x ∈ l, x ∈ l') : maxs l ≤ maxs l' := (maxs_le_iff l _).2 ⟨maxs_nonneg _, fun x hx => le_maxs (h x hx)⟩
theorem maxs_congr {l l' : List Int} (h : ∀ x, x ∈ l ↔ x ∈ l') : maxs l = maxs l' := Int.le_antisymm (maxs_mono fun x hx => (h x).1 hx) (maxs_mono fun x hx => (h x).2 hx)
/-- A sum over a list. -/
def sm (l : List Int) (f : Int → Int) : Int := l.foldr (fun x s => f x + s) 0
theorem sm_nil (f : Int → Int) : sm [] f = 0 := rfl
theorem sm_cons (x : Int) (l : List Int) (f : Int → Int) : sm (x :: l) f = f x + sm l f := rfl
theorem sm_congr {l : List Int} {f g : Int → Int} (h : ∀ x ∈ l, f x = g x) : sm l f = sm l g := by
 induction l with
 | nil => rfl
 | cons x l ih => rw [sm_cons, sm_cons, h x (by simp), ih fun y hy => h y (by simp [hy])]
theorem sm_zero {l : List Int} {f : Int → Int} (h : ∀ x ∈ l, f x = 0) : sm l f = 0 := by
 induction l with
 | nil => rfl
 | cons x l ih => rw [sm_cons, h x (by simp), ih fun y hy => h y (by simp [hy])]; rfl
theorem sm_one {l : List Int} (h : l.Nodup) {x : Int} (hx : x ∈ l) (f g : Int → Int) (he : ∀ y ∈ l, y ≠ x → f y = g y) : sm l f = sm l g - g x + f x := by
 induction l with
 | nil => simp at hx
 | cons y l ih =>
  obtain ⟨hn, h1⟩ := List.nodup_cons.1 h
  rw [sm_cons, sm_cons]
  by_cases hxy : x = y
  ·subst hxy
   rw [sm_congr (f := f) (g := g) fun z hz => he z (by simp [hz]) (by rintro rfl; exact hn hz)]
   omega
  ·have hx' : x ∈ l := by simpa [hxy] using hx
   rw [ih h1 hx' fun z hz => he z (by simp [hz]), he y (by simp) (fun h => hxy h.symm)]
   omega
/-- Over another list without repetitions, outside of which nothing counts. -/
theorem sm_within : ∀ (l l' : List Int) (f : Int → Int), l.Nodup → l'.Nodup → (∀ x ∈ l, x ∈ l') → (∀ x ∈ l', x ∉ l → f x = 0) → sm l f = sm l' f
 | [], l', f, _, _, _, hz => (sm_zero fun x hx => hz x hx (by simp)).symm
 | x :: l, l', f, h, h', hs, hz => by
  obtain ⟨hn, h1⟩ := List.nodup_cons.1 h
  have hx := hs x (by simp)
  have := sm_within l l' (fun y => if y = x then 0 else f y) h1 h' (fun y hy => hs y (by simp [hy])) (fun y hy hyl => by
   by_cases hyx : y = x
   ·simp [hyx]
   ·simp only [hyx, if_false]; exact hz y hy (by simp [hyx, hyl]))
  rw [sm_cons, sm_one h' hx f (fun y => if y = x then 0 else f y) (fun y _ hy => by simp [hy]), ← this]
  rw [sm_congr (l := l) (f := fun y => if y = x then 0 else f y) (g := f) fun y hy => by
   have : y ≠ x := by rintro rfl; exact hn hy
   simp [this]]
  simp
  omega
/-- The keys of a set of integers. -/
theorem sameKey_i64 (a b : Int) : (Lit.int .i64 a).sameKey (Lit.int .i64 b) = (a == b) := by
 simp only [Lit.sameKey]; first | (simp; done) | (rw [Bool.eq_iff_iff]; simp)
theorem addKeys_nub (l : List Int) : (l.map (Lit.int .i64)).foldl Maps.addKey [] = (nub l).map (Lit.int .i64) := by
 induction l using snoc_ind with
 | h0 => simp [nub]
 | h1 l y ih =>
  rw [List.map_append, List.foldl_append, ih, nub_snoc]
  simp only [List.map_cons, List.map_nil, List.foldl_cons, List.foldl_nil, Maps.addKey, List.any_map]
  have e : ((nub l).any ((fun z => z.sameKey (Lit.int .i64 y)) ∘ Lit.int .i64)) = decide (y ∈ nub l) := by
   rw [Bool.eq_iff_iff]
   simp [sameKey_i64]
  rw [e]
  by_cases h : y ∈ nub l <;> simp [h]
end Go.Fld
namespace Go.Proofs.Ytfdoncgljohndaa.P
open Go.RowKit Go.Fld Go.Proofs.YtfdoncgljohndaaW.PrintWords Go.Proofs.YtfdoncgljohndaaW.PrintLast Go.Proofs.YtfdoncgljohndaaW.PrintMore
def ofM (L : List S28) (x : Int) : List S28 := L.filter (fun c => c.f0 == x)
def seenM (L : List S28) (x : Int) : Int := maxs ((ofM L x).map (·.f3))
def lookM (L : List S28) (x : Int) : Int := maxs ((ofM L x).map (·.f4))
def brokM (L : List S28) (x : Int) : Int := maxs ((ofM L x).map (·.f5))
def lastM (L : List S28) (x : Int) : Int := maxs ((ofM L x).map (·.f1))
def seqsM (L : List S28) (x : Int) : List Int := (ofM L x).map (·.f1)
def missM (L : List S28) (x : Int) : Int := lastM L x - ((nub (seqsM L x)).length : Int)
def macs (L : List S28) : List Int := nub (L.map (·.f0))
def gathR (L : List S28) (p : Int) : Int × Int × Int × Int × Int × Int := (p, ((macs L).length : Int), sm (macs L) (seenM L), sm (macs L) (lookM L), sm (macs L) (brokM L), sm (macs L) (missM L))
/-- What Right says of a report. -/
def okR (k : Nat) (keys : List Int) (c : S28) : Option Int := field_Right.f k keys c.f0 c.f1 c.f2 c.f3 c.f4 c.f5 c.f6
def accR (k : Nat) (keys : List Int) (p : Int) (c : S28) : Bool := c.f2 == p && okR k keys c == some 0
def field_Gather.f (k : Nat) (l0 : List Int) (l1 : List S28) (a2 : Int) : Option (Int × Int × Int × Int × Int × Int) :=
 if l0.length ≤ 1000000 ∧ l1.length ≤ 1000 ∧ (l1.all fun c => c.f2 != a2 || (okR k l0 c).isSome) = true then some (gathR (l1.filter (accR k l0 a2)) a2) else none
/-- What is accepted is in bounds. -/
def okB (c : S28) : Prop := 0 ≤ c.f0 ∧ 1 ≤ c.f1 ∧ c.f1 ≤ 1073741824 ∧ 0 ≤ c.f5 ∧ c.f5 ≤ c.f4 ∧ c.f4 ≤ c.f3 ∧ c.f3 ≤ 1099511627776
theorem right_bounds {k : Nat} {keys : List Int} {c : S28} (h : okR k keys c = some 0) : okB c ∧ c.f0 < keys.length := by
 unfold okR field_Right.f at h
 have j1 : ∀ k b, field_Right.j1 k keys b c.f0 c.f1 c.f2 c.f3 c.f4 c.f5 c.f6 = some 0 → b = false ∧ 0 ≤ c.f5 ∧ c.f5 ≤ c.f4 ∧ c.f4 ≤ c.f3 ∧ c.f3 ≤ 1099511627776 ∧ 0 ≤ c.f0 := by
  intro k b h
  have j2 : ∀ k b, field_Right.j2 k keys b c.f0 c.f1 c.f2 c.f3 c.f4 c.f5 c.f6 = some 0 → b = false ∧ 0 ≤ c.f0 := by
   intro k b h
   cases k with
   | zero => simp [field_Right.j2] at h
   | succ k =>
    simp only [field_Right.j2] at h
    by_cases h0 : b = true
    ·rw [if_pos h0] at h; simp at h
    ·rw [if_neg h0] at h
     by_cases h1 : 0 ≤ c.f0
     ·exact ⟨by simpa using h0, h1⟩
     ·rw [if_neg h1] at h; cases h
  cases k with
  | zero => simp [field_Right.j1] at h
  | succ k =>
   simp only [field_Right.j1] at h
   by_cases h0 : b = true
   ·rw [if_pos h0] at h; simp at h
   rw [if_neg h0] at h
   by_cases h1 : c.f5 < 0
   ·rw [if_pos h1] at h; exact absurd (j2 _ _ h).1 (by simp)
   rw [if_neg h1] at h
   by_cases h2 : c.f4 < c.f5
   ·rw [if_pos h2] at h; exact absurd (j2 _ _ h).1 (by simp)
   rw [if_neg h2] at h
   by_cases h3 : c.f3 < c.f4
   ·rw [if_pos h3] at h; exact absurd (j2 _ _ h).1 (by simp)
   rw [if_neg h3] at h
   have := j2 _ _ h
   have h4 : ¬ c.f3 > 1099511627776 := of_decide_eq_false this.1
   exact ⟨by simpa using h0, by omega, by omega, by omega, by omega, this.2⟩
 have j0 : ∀ k b, field_Right.j0 k keys b c.f0 c.f1 c.f2 c.f3 c.f4 c.f5 c.f6 = some 0 → b = false ∧ okB c := by
  intro k b h
  cases k with
  | zero => simp [field_Right.j0] at h
  | succ k =>
   simp only [field_Right.j0] at h
   by_cases h0 : b = true
   ·rw [if_pos h0] at h; exact absurd ((j1 _ _ h).1.symm.trans h0) (by simp)
   rw [if_neg h0] at h
   by_cases h1 : c.f1 < 1
   ·rw [if_pos h1] at h; exact absurd (j1 _ _ h).1 (by simp)
   rw [if_neg h1] at h
   have := j1 _ _ h
   have h4 : ¬ c.f1 > 1073741824 := of_decide_eq_false this.1
   exact ⟨by simpa using h0, this.2.2.2.2.2, by omega, by omega, this.2.1, this.2.2.1, this.2.2.2.1, this.2.2.2.2.1⟩
 by_cases h0 : c.f0 < 0
 ·rw [if_pos h0] at h; exact absurd (j0 _ _ h).1 (by simp)
 rw [if_neg h0] at h
 have := j0 _ _ h
 have h4 : ¬ c.f0 ≥ (keys.length : Int) := of_decide_eq_false this.1
 exact ⟨this.2, by omega⟩
theorem acc_bounds {k : Nat} {keys : List Int} {p : Int} {c : S28} (h : accR k keys p c = true) : okB c ∧ c.f0 < keys.length := by
 unfold accR at h
 simp only [Bool.and_eq_true, beq_iff_eq] at h
 exact right_bounds h.2
theorem ofM_snoc (L : List S28) (c : S28) (x : Int) : ofM (L ++ [c]) x = if c.f0 = x then ofM L x ++ [c] else ofM L x := by
 unfold ofM
 rw [List.filter_append]
 by_cases h : c.f0 = x <;> simp [h]
theorem seenM_snoc (L : List S28) (c : S28) (x : Int) : seenM (L ++ [c]) x = if c.f0 = x then max (seenM L x) c.f3 else seenM L x := by
 unfold seenM; rw [ofM_snoc]; split <;> simp [maxs_snoc]
theorem lookM_snoc (L : List S28) (c : S28) (x : Int) : lookM (L ++ [c]) x = if c.f0 = x then max (lookM L x) c.f4 else lookM L x := by
 unfold lookM; rw [ofM_snoc]; split <;> simp [maxs_snoc]
theorem brokM_snoc (L : List S28) (c : S28) (x : Int) : brokM (L ++ [c]) x = if c.f0 = x then max (brokM L x) c.f5 else brokM L x := by
 unfold brokM; rw [ofM_snoc]; split <;> simp [maxs_snoc]
theorem lastM_snoc (L : List S28) (c : S28) (x : Int) : lastM (L ++ [c]) x = if c.f0 = x then max (lastM L x) c.f1 else lastM L x := by
 unfold lastM; rw [ofM_snoc]; split <;> simp [maxs_snoc]
theorem seqsM_snoc (L : List S28) (c : S28) (x : Int) : seqsM (L ++ [c]) x = if c.f0 = x then seqsM L x ++ [c.f1] else seqsM L x := by
 unfold seqsM; rw [ofM_snoc]; split <;> simp
/-- How an element of the outer map reads: the number of its block. -/
def ptrE : Value → Option (DataW Nat × List MemPlace)
 | .pointer none => some (.lit (.bool false), [])
 | .pointer (some ⟨b, 0, none⟩) => some (.lit (.int .i64 b), [])
 | _ => none
theorem ptrE_nil : ptrE (.pointer none) = some (.lit (.bool false), []) := rfl
theorem ptrE_mk (b : Nat) : ptrE (.pointer (some ⟨b, 0, none⟩)) = some (.lit (.int .i64 b), []) := rfl
theorem ptrE_inv {v : Value} {b : Nat} {ps : List MemPlace} (h : ptrE v = some (.lit (.int .i64 (b : Int)), ps)) : v = .pointer (some ⟨b, 0, none⟩) := by
 unfold ptrE at h
 split at h
 ·simp at h
 ·simp only [Option.some.injEq, Prod.mk.injEq, DataW.lit.injEq, Lit.int.injEq, true_and] at h
  have := Int.ofNat_inj.1 h.1
  rw [this]
 ·cases h
theorem ptrE_shape {v : Value} {y : DataW Nat × List MemPlace} (h : ptrE v = some y) : (v = .pointer none) ∨ ∃ b, v = .pointer (some ⟨b, 0, none⟩) ∧ y.1 = .lit (.int .i64 (b : Int)) := by
 unfold ptrE at h
 split at h
 ·exact .inl rfl
 ·cases h; exact .inr ⟨_, rfl, rfl⟩
 ·cases h
theorem keyLit (x : Int) : WideAt.IsKeyLit (Lit.int .i64 x) := by simp [WideAt.IsKeyLit]
def zero40 : Obj := .cells #[.int .i64 0, .int .i64 0, .int .i64 0, .int .i64 0, .int .i64 0, .int .i64 0] 40 (0, 0)
def mac91 (a b c d : Int) (s : Nat) : Obj := .cells #[.int .i64 a, .int .i64 b, .int .i64 c, .int .i64 d, .map (some s)] 91 (0, 0)
def setE (l : List Int) : DataW Nat := Maps.setOf (.lit (.bool true)) (l.map (Lit.int .i64))
/-- The memory under way: K the machines that have a struct, L the reports taken in so far, n a bound on the maps' sizes. -/
structure GI (w wr : World) (D : DataW Nat) (B S : Int → Nat) (K : List Int) (L : List S28) (n : Nat) : Prop where
 below : Below w.heap.size w wr
 box : wr.heap[w.heap.size]? = some zero40
 map : wr.ownsMap Try.prog 3 ptrE (w.heap.size + 1) n D
 has : ∀ x, Maps.has D (.int .i64 x) = decide (x ∈ K)
 at_ : ∀ x ∈ K, ∀ z, D.atKey (.int .i64 x) z = .lit (.int .i64 (B x))
 size : Maps.size D = K.length
 sub : ∀ c ∈ L, c.f0 ∈ K
 mac : ∀ x ∈ K, wr.heap[B x]? = some (mac91 (seenM L x) (lookM L x) (brokM L x) (lastM L x) (S x))
 set_ : ∀ x ∈ K, wr.ownsMap Try.prog 3 (plainElem Try.prog 4) (S x) n (setE (seqsM L x))
 newB : ∀ x ∈ K, w.heap.size + 1 < B x
 newS : ∀ x ∈ K, w.heap.size + 1 < S x
 injB : ∀ x ∈ K, ∀ y ∈ K, B x = B y → x = y
 injS : ∀ x ∈ K, ∀ y ∈ K, S x = S y → x = y
variable {w wr : World} {D : DataW Nat} {B S : Int → Nat} {K : List Int} {L : List S28} {n : Nat}
theorem GI.size_le (h : GI w wr D B S K L n) : w.heap.size + 1 < wr.heap.size := h.map.lt
theorem GI.ltB (h : GI w wr D B S K L n) {x : Int} (hx : x ∈ K) : B x < wr.heap.size := (Array.getElem?_eq_some_iff.1 (h.mac x hx)).1
theorem GI.ltS (h : GI w wr D B S K L n) {x : Int} (hx : x ∈ K) : S x < wr.heap.size := (h.set_ x hx).lt
theorem GI.ne (h : GI w wr D B S K L n) {x y : Int} (hx : x ∈ K) (hy : y ∈ K) : B x ≠ S y := by
 intro e
 obtain ⟨es, cl, hb, _⟩ := h.set_ y hy
 have := h.mac x hx
 rw [e, hb] at this
 cases this
theorem GI.kept (h : GI w wr D B S K L n) {wr' : World} (hg : wr.grownBy wr' none) : GI w wr' D B S K L n :=
 have hs := h.size_le
 have hk : ∀ i, i < wr.heap.size → wr'.heap[i]? = wr.heap[i]? := fun i hi => hg.block i hi (by simp)
 ⟨h.below.grown hg (by omega) (by simp), (hk _ (by omega)).trans h.box, h.map.kept hg (by simp), h.has, h.at_, h.size, h.sub, fun x hx => (hk _ (h.ltB hx)).trans (h.mac x hx), fun x hx => (h.set_ x hx).kept hg (by simp), h.newB, h.newS, h.injB, h.injS⟩
theorem GI.more (h : GI w wr D B S K L n) {m : Nat} (hm : n ≤ m) : GI w wr D B S K L m :=
 ⟨h.below, h.box, h.map.mono hm, h.has, h.at_, h.size, h.sub, h.mac, fun x hx => (h.set_ x hx).mono hm, h.newB, h.newS, h.injB, h.injS⟩
theorem GI.start (w : World) : GI w ((w.alloc zero40).alloc (.map #[] 0)) (.map []) (fun _ => 0) (fun _ => 0) [] [] 0 := by
 have e : (w.alloc zero40).heap.size = w.heap.size + 1 := World.size_alloc _ _
 have hm := World.ownsMap_made (H := Nat) (w.alloc zero40) Try.prog 3 ptrE
 rw [e] at hm
 exact ⟨((Below.refl _ w).alloc (Nat.le_refl _) _).alloc (by omega) _, (Below.heap_alloc _ _ _ (by omega)).trans (blk_new w zero40), hm, fun x => by simp [Maps.has], by simp, rfl, by simp, by simp, by simp, by simp, by simp, by simp, by simp⟩
end Go.Proofs.Ytfdoncgljohndaa.P

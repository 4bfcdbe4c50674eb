/- The trie: pairs of a trie with a root. Vote: slices.Insert on a row of the call's own. Vote: slices.Delete of one address out of a row of the call's own. The trie: slices.Insert and slices.Delete of pairs. The trie: slices.Delete of pairs. The trie: where a key stands. -/
import Derived.Laws.CopyRow
import Derived.Lib.AppendZeros
import Derived.Lib.Overlaps
import Derived.Lib.Bytealg
import Derived.Shelf.Abstract
import Derived.Test.YtefmlbckbhlgdaaTm0
import Derived.Test.YtefmlbckbhlgdaaTm2
import Derived.Test.YtefmlbckbhlgdaaTm11
namespace Go.Proofs.Ytefmlbckbhlgdaa
open Go.RowKit Go.Shelf
set_option maxRecDepth 100000
/-- What the walk finds. -/
def outW (ns : List Nd) (r : Int) : List Pr × Bool := walkF ns (ns.length + 1) r [] []
theorem walk_root (ns : List Nd) (hns : NsOk ns) (ko : Nat) (u : Value) (r : Int) (sv : Value) (w : World) (hr2 : r ≤ 9223372036854775807) (hs : OS w ko sv []) (hr : ARN w ko sv u ns) :
    Calls Try.prog 68 #[.agg #[u, .int .i64 r], .int .i64 r, .string (mkS []), fnY ko] w (FillAns ko sv (outW ns r) w) := by
  have hf := hns.few
  by_cases h : r < (ns.length + 1 : Nat)
  · exact walk_all ns (fun n hn => ⟨hns.kids n hn, hns.part n hn⟩) (ns.length + 1) (by omega) ko u r r [] [] sv w hs hr h (by simp) (by simp)
  · have e : outW ns r = ([], false) := by
      unfold outW
      rw [walkF, if_neg (by omega), List.getElem?_eq_none (by omega)]
    rw [e]
    obtain ⟨j, rfl⟩ : ∃ j : Nat, r = j := ⟨r.toNat, by omega⟩
    exact walk_no2 ns ko u j j [] [] sv w hs hr (by simp) (by omega) (by omega)

set_option maxHeartbeats 8000000 in
theorem pairs_some (ns : List Nd) (hns : NsOk ns) (u : Value) (r : Int) (w : World) (hr1 : r ≠ -1) (hr2 : r ≤ 9223372036854775807) (h : RN w u ns) : Calls Try.prog 37 #[.agg #[u, .int .i64 r]] w (PairsAns (ns, r) w) := by
  obtain ⟨p, c, rfl, z1, z2⟩ := RowE.shape encN h
  have HP := Lib.hid (show pairsT (ns, r) = ((outW ns r).1, (outW ns r).2 && likeT ns r (ofT (outW ns r).1).1 (ofT (outW ns r).1).2) from by
    unfold pairsT
    rw [if_neg hr1, likeT_dec hns.kids (ofT_kids _)]
    rfl)
  have KW := Lib.hid (fun W (h1 : OS W (w.heap.size + 1) (.slice none 0 0) []) (h2 : ARN W (w.heap.size + 1) (.slice none 0 0) (.slice p ns.length c) ns) => walk_root ns hns (w.heap.size + 1) (.slice p ns.length c) r (.slice none 0 0) W hr2 h1 h2)
  replace KW : Hid (∀ W, OS W (w.heap.size + 1) (.slice none 0 0) [] → ARN W (w.heap.size + 1) (.slice none 0 0) (.slice p ns.length c) ns → Calls Try.prog 68 #[.agg #[.slice p ns.length c, .int .i64 r], .int .i64 r, .string ⟨#[]⟩, fnY (w.heap.size + 1)] W (FillAns (w.heap.size + 1) (.slice none 0 0) (outW ns r) W)) := KW
  have HPW := Lib.hid (show (outW ns r).2 = true → Pairs (outW ns r).1 from fun h => walk_pairs hns.kids h)
  generalize outW ns r = x at *
  obtain ⟨out, is⟩ := x
  simp only at HP HPW
  have HB := Lib.hid (((Below.refl w.heap.size w).alloc (Nat.le_refl _) (.cells #[.slice p ns.length c, .int .i64 r] 37)).alloc (by simp) (.cells #[.slice none 0 0] 34))
  have R1 := Lib.hid ((RowAt.new w #[.slice p ns.length c, .int .i64 r] 37).alloc (.cells #[.slice none 0 0] 34))
  have HS := Lib.hid (show OS ((w.alloc (.cells #[.slice p ns.length c, .int .i64 r] 37)).alloc (.cells #[.slice none 0 0] 34)) (w.heap.size + 1) (.slice none 0 0) [] from ⟨RowAt.new' _ _ _ (by simp), OwnE.nil encP _ _ _⟩)
  have HR := Lib.hid (show ARN ((w.alloc (.cells #[.slice p ns.length c, .int .i64 r] 37)).alloc (.cells #[.slice none 0 0] 34)) (w.heap.size + 1) (.slice none 0 0) (.slice p ns.length c) ns from by
    refine ⟨RN.below h HB.out (Nat.le_refl _), ?_⟩
    by_cases hn : ns = []
    · exact .inl hn
    · refine .inr fun b e => ⟨fun e2 => ?_, by simp [Value.ownBlock]⟩
      have := RN.blk h hn b e
      omega)
  have hrb : (r == -1) = false := beq_eq_false_iff_ne.2 hr1
  obtain ⟨x0, x1, -, -⟩ := R1.out.c2
  clear h hr1
  go_enter Try.func37, Try.ntmps37
  go_upto_region 4 with (fail)
  generalize (w.alloc (.cells #[.slice p ns.length c, .int .i64 r] 37)).alloc (.cells #[.slice none 0 0] 34) = w1 at *
  go_upto_region 5 with (go_at_call 68; (with_reducible refine (KW.out w1 HS.out HR.out).mono ?_); rintro e w2 ⟨sv2, rfl, hs2, hk2, hf2⟩; have HS2 := Lib.hid hs2; have HK2 := Lib.hid hk2; have HR2 := Lib.hid (HR.out.step hk2 hf2); clear hs2 hk2 hf2)
  have RB := Lib.hid (R1.out.ak HK2.out (by omega) (by simp [Value.ownBlock]))
  have HBW := Lib.hid (HK2.out.below HB.out HB.out.size (Nat.le_succ _) (fun g e => by simp [Value.ownBlock] at e))
  clear x0 x1 HS HR R1 HK2 HB KW
  obtain ⟨q, cq, rfl, z3, z4⟩ := OP.shape HS2.out.2
  have b0 : ∀ u : InC (LaterC w2.drew), u.w.cell? ⟨w.heap.size, 0, none⟩ = some (.slice p ns.length c) := (RB.out.drew.ic2).1
  have b1 : ∀ u : InC (LaterC w2.drew), u.w.cell? ⟨w.heap.size, 1, none⟩ = some (.int .i64 r) := (RB.out.drew.ic2).2
  have d0 : ∀ u : InC (LaterC w2.drew), u.w.cell? ⟨w.heap.size + 1, 0, none⟩ = some (.slice q out.length cq) := fun u => (HS2.out.1.drew.inC u).cell 0
  cases is
  · have hp2 := Lib.hid (show pairsT (ns, r) = (out, false) from HP.out)
    (refine region_items [(false, 0), (false, 1), (false, 2), (false, 3), (false, 4), (true, 5), (true, 6), (false, 7), (false, 8)] 9 (LaterC w2.drew) mix ?hB ?hC ?_; case hB => kernel_rfl); (case hC => (exact Below.refl _ _)); ((with_reducible refine xi_read ?_); (refine ⟨_, rfl, ?_⟩); intro K hK; go_simp; (with_reducible refine hK _ ?_); clear hK K); ((with_reducible refine xi_read ?_); (refine ⟨_, rfl, ?_⟩); intro K hK; go_simp; (with_reducible refine hK _ ?_); clear hK K); ((with_reducible refine xi_read ?_); (refine ⟨_, rfl, ?_⟩); intro K hK; go_simp; (with_reducible refine hK _ ?_); clear hK K); ((with_reducible refine xi_read ?_); (refine ⟨_, rfl, ?_⟩); intro K hK; go_simp; (with_reducible refine hK _ ?_); clear hK K); ((with_reducible refine xi_read ?_); (refine ⟨_, rfl, ?_⟩); intro K hK; go_simp; (with_reducible refine hK _ ?_); clear hK K); ((with_reducible refine xi_eff ?_); (refine ⟨_, rfl, ?_⟩); intro K hK; unfold EX; go_simp; (with_reducible refine hK _ _ ?_; clear hK K)); ((with_reducible refine xi_eff ?_); (refine ⟨_, rfl, ?_⟩); intro K hK; unfold EX; go_simp; (with_reducible refine hK _ _ ?_; clear hK K)); ((with_reducible refine xi_read ?_); (refine ⟨_, rfl, ?_⟩); intro K hK; go_simp; (with_reducible refine hK _ ?_); clear hK K); ((with_reducible refine xi_read ?_); (refine ⟨_, rfl, ?_⟩); intro K hK; go_simp; (with_reducible refine hK _ ?_); clear hK K); (with_reducible refine xi_nil ?_); (simp only [List.drop_succ_cons, List.drop_zero])
    clear b0 b1 d0
    go_wp2
    refine bodyPost_ret (v := .tuple #[.slice q out.length cq, .bool false]) (by simp [results, Try.results37, go_sem]) rfl ?_
    refine ⟨.slice q out.length cq, by rw [hp2.out], ?_, HBW.out.drew⟩
    rw [hp2.out]
    exact OwnE.mono encP (HS2.out.2.below (Below.refl w2.heap.size w2).drew (Nat.le_refl _)) (by omega)
  · have hpw := HPW.out rfl
    have KO := Lib.hid (fun W (h : RP W (.slice q out.length cq) out) => trieOf_any out (.slice q out.length cq) W h hpw.1 (by have := hpw.2.2; omega) (fun x hx => by have := mayP_len (hpw.2.1 x hx); omega))
    have hp2 := Lib.hid (show pairsT (ns, r) = (out, likeT ns r (ofT out).1 (ofT out).2) from HP.out)
    generalize ofT out = t at *
    obtain ⟨ms, ix⟩ := t
    have KS := Lib.hid (fun u W (h1 : RN W (.slice p ns.length c) ns) (h2 : RN W u ms) => same_any ns ms r ix (.slice p ns.length c) u W h1 h2)
    simp only at hp2
    generalize likeT ns r ms ix = b at *
    have HRO := Lib.hid (show RP w2 (.slice q out.length cq) out from OwnE.row encP HS2.out.2)
    have HRN := Lib.hid HR2.out.1
    clear hpw HPW HP
    (refine region_items [(false, 0), (false, 1), (false, 2), (false, 3), (false, 4), (true, 5), (true, 6), (false, 7), (false, 8)] 9 (LaterC w2.drew) mix ?hB ?hC ?_; case hB => kernel_rfl); (case hC => (exact Below.refl _ _)); ((with_reducible refine xi_read ?_); (refine ⟨_, rfl, ?_⟩); intro K hK; go_simp; (with_reducible refine hK _ ?_); clear hK K); ((with_reducible refine xi_read ?_); (refine ⟨_, rfl, ?_⟩); intro K hK; go_simp; (with_reducible refine hK _ ?_); clear hK K); ((with_reducible refine xi_read ?_); (refine ⟨_, rfl, ?_⟩); intro K hK; go_simp; (with_reducible refine hK _ ?_); clear hK K); ((with_reducible refine xi_read ?_); (refine ⟨_, rfl, ?_⟩); intro K hK; go_simp; (with_reducible refine hK _ ?_); clear hK K); ((with_reducible refine xi_read ?_); (refine ⟨_, rfl, ?_⟩); intro K hK; go_simp; (with_reducible refine hK _ ?_); clear hK K); ((with_reducible refine xi_eff ?_); (refine ⟨_, rfl, ?_⟩); intro K hK; unfold EX; go_simp; (go_at_call 41; (with_reducible refine (KO.out _ (RP.below HRO.out (Below.refl w2.heap.size w2).drew (Nat.le_refl _))).mono ?_); rintro e w3 ⟨u3, rfl, hr3, hb3⟩; refine ⟨_, rfl, hb3, hK _ _ ?_⟩; clear hK K)); ((with_reducible refine xi_eff ?_); (refine ⟨_, rfl, ?_⟩); intro K hK; unfold EX; go_simp; (go_at_call 71; (with_reducible refine (KS.out u3 w3 (RN.below (RN.below HRN.out (Below.refl w2.heap.size w2).drew (Nat.le_refl _)) hb3 (Nat.le_refl _)) hr3).mono ?_); rintro e w4 ⟨rfl, hb4⟩; have HB4 := hb3.trans (hb4.mono hb3.size); refine ⟨_, rfl, HB4, hK _ _ ?_⟩; clear hK K)); ((with_reducible refine xi_read ?_); (refine ⟨_, rfl, ?_⟩); intro K hK; go_simp; (with_reducible refine hK _ ?_); clear hK K); ((with_reducible refine xi_read ?_); (refine ⟨_, rfl, ?_⟩); intro K hK; go_simp; (with_reducible refine hK _ ?_); clear hK K); (with_reducible refine xi_nil ?_); (simp only [List.drop_succ_cons, List.drop_zero])
    have HBD := (Below.refl w2.heap.size w2).drew
    have HB5 := HBD.trans (HB4.mono HBD.size)
    clear b0 b1 d0
    go_wp2
    refine bodyPost_ret (v := .tuple #[.slice q out.length cq, .bool b]) (by simp [results, Try.results37, go_sem]) rfl ?_
    refine ⟨.slice q out.length cq, by rw [hp2.out], ?_, HBW.out.trans (HB5.mono HBW.out.size)⟩
    rw [hp2.out]
    exact OwnE.mono encP (HS2.out.2.below HB5 (Nat.le_refl _)) (by omega)
theorem pairs_any (ns : List Nd) (hns : NsOk ns) (u : Value) (r : Int) (w : World) (hr2 : r ≤ 9223372036854775807) (h : RN w u ns) : Calls Try.prog 37 #[.agg #[u, .int .i64 r]] w (PairsAns (ns, r) w) := by
  by_cases h1 : r = -1
  · subst h1; exact pairs_none ns u w h
  · exact pairs_some ns hns u r w h1 hr2 h
end Go.Proofs.Ytefmlbckbhlgdaa
namespace Go.Proofs.Ytefmlbckbhlgdaa
open Go.RowKit
/-- 'copy' into a row that may be written, whatever the size of an element. -/
theorem run_copy_k (w : World) (dT sT ty elem : TypeId) (i0 : TypeInfo) (k : Nat) (g o dLen dCap : Nat) (a : Addr) (sLen sCap : Nat) (cur : Array Value) (t : TypeId) (cs : List Value)
    (hu : Try.prog.underlying dT = some (.slice elem)) (hi : Try.prog.info? elem = some i0) (hk : i0.size = k)
    (hg : w.heap[g]? = some (.cells cur t (0, 0))) (hn : cs.length = Nat.min sLen dLen * k)
    (hsrc : ∀ j v, cs[j]? = some v → w.cell? (a.add j) = some v) (hfit : o + cs.length ≤ cur.size) (h1 : ∀ v ∈ cs, v.oneCell' = true) :
    (Builtin.copy_ #[dT, sT] ty #[.slice (some ⟨g, o, none⟩) dLen dCap, .slice (some a) sLen sCap]).run Try.prog w =
      .ok (goInt (Nat.min sLen dLen)) (w.setRow g (cur.toList.take o ++ cs ++ cur.toList.drop (o + cs.length)).toArray) := by
  have hl := run_loadCells_list (P := Try.prog) w a cs hsrc
  have hst := run_storeCells_at Try.prog g o t cs 0 cur w hg (by simpa using hfit) h1
  simp [Builtin.copy_, run_underlying hu, Builtin.lenOf, Builtin.firstCells, sizeOf, typeInfo, hi, hk, ← hn, hl, hst]

theorem wpList_copy_k {ops : Array Oper} {rest : List Oper} {o : Oper} {a : Act} {Q : Exit → Act → World → Prop} {w : World} (hgd : o.guard = Option.none) (d s : Operand) (t t' : TypeId)
    (ho : o.op = .call { callee := .builtin .copy, args := #[d, s], argTypes := #[t, t'] }) (v u : Value) (hd : a.eval d = v) (hs : a.eval s = u) (v' : Value) (w' : World)
    (hr : (Builtin.copy_ #[t, t'] o.type #[v, u]).run Try.prog w = .ok v' w') (h : wpList Try.prog ops Q rest (a.put o.dst v') w') : wpList Try.prog ops Q (o :: rest) a w := by
  refine wpList_plain hgd fun _ hK => ?_
  unfold Oper.wp execOp
  simp only [ho, resolve, invoke, builtin, Sem.run_bind, Sem.run_pure, Result.andThen_ok, List.map_toArray, List.map_cons, List.map_nil, hd, hs, hr]
  exact hK _ _ h

/-- append(s[:i], make([]T, n)...) where there is no room: a new row. -/
theorem run_append_grow_zeros (w : World) (t tn ty e : TypeId) (i : TypeInfo) (z : Value) (k kn : IntKind) (ht : Try.prog.underlying t = some (.slice e)) (htn : Try.prog.underlying tn = some (.int kn)) (hi : Try.prog.info? e = some i) (hz : i.zero = some z)
    (b : Addr) (sLen sCap : Nat) (olds : List Value) (hlo : olds.length = sLen * i.size) (holds : ∀ j v, olds[j]? = some v → w.cell? (b.add j) = some v)
    (n : Nat) (h0 : 0 < n) (hs : 0 < i.size) (hg : sCap < sLen + n) (h63 : (sLen + n : Nat) ≤ 1000000000) (hby : i.bytes ≤ 100) :
    (Builtin.append_ #[t, tn] ty #[.slice (some b) sLen sCap, .int k n]).run Try.prog w =
      .ok (.slice (some ⟨w.heap.size, 0, none⟩) (sLen + n) (grownCap w (sLen + n) sCap e)) (w.drew.alloc (.cells (olds.toArray ++ Builtin.zeroCells z.cells n ++ Builtin.zeroCells z.cells (grownCap w (sLen + n) sCap e - (sLen + n))) e)) := by
  have hn : n ≠ 0 := by omega
  have hroom : ¬ (sLen + n ≤ sCap) := by omega
  have hw : IntKind.i64.wrap (n : Int) = n := by rw [IntKind.wrap_i64]; omega
  have h63' : ¬ (9223372036854775807 < (sLen : Int) + (n : Int)) := by omega
  have hmul : (sLen + n) * i.bytes ≤ 140737488355328 := Nat.le_trans (Nat.mul_le_mul h63 hby) (by omega)
  have h48' : ¬ (281474976710656 < Builtin.nextslicecap (sLen + n) sCap * i.bytes) := by have := growslice_fits hg hmul; omega
  have hmul2 : n * i.bytes ≤ 140737488355328 := Nat.le_trans (Nat.mul_le_mul_right _ (by omega)) hmul
  have h48i : ¬ (281474976710656 < (n : Int) * (i.bytes : Int)) := by
    rw [← Int.natCast_mul]
    omega
  have hneg : ¬ ((n : Int) < 0) := by omega
  have hns : ¬ (n * i.size = 0) := Nat.mul_ne_zero hn (by omega)
  have hl := run_firstCells_some (P := Try.prog) w.drew i.size sLen b sLen sCap olds hlo holds
  simp [Builtin.append_, run_underlying ht, run_underlying htn, sizeOf, typeInfo, zeroValue, hi, hz, asInt, asIntOf, hw, hneg, hns, hroom, h63', h48', h48i, Question.forced, hl, newRow, grownCap]

theorem put_take (c0 y z : List Value) (o : Nat) (h : o + y.length + z.length ≤ c0.length) :
    ((((c0.take o ++ y ++ c0.drop (o + y.length)).take (o + y.length)) ++ z ++ (c0.take o ++ y ++ c0.drop (o + y.length)).drop (o + y.length + z.length)).take (o + y.length + z.length)) = c0.take o ++ y ++ z := by
  have h1 : (c0.take o ++ y).length = o + y.length := by rw [List.length_append, List.length_take]; omega
  have e1 : (c0.take o ++ y ++ c0.drop (o + y.length)).take (o + y.length) = c0.take o ++ y := by rw [← h1, List.take_left]
  rw [e1]
  have h2 : (c0.take o ++ y ++ z).length = o + y.length + z.length := by rw [List.length_append, h1]
  rw [← h2, List.take_left]

theorem put_take2 (c0 y z : List Value) (o : Nat) (h : o + y.length + z.length ≤ c0.length) :
    (((c0.take (o + y.length) ++ z ++ c0.drop (o + y.length + z.length)).take o ++ y ++ (c0.take (o + y.length) ++ z ++ c0.drop (o + y.length + z.length)).drop (o + y.length)).take (o + y.length + z.length)) = c0.take o ++ y ++ z := by
  have h1 : (c0.take (o + y.length)).length = o + y.length := by rw [List.length_take]; omega
  have e1 : (c0.take (o + y.length) ++ z ++ c0.drop (o + y.length + z.length)).drop (o + y.length) = z ++ c0.drop (o + y.length + z.length) := by
    rw [List.append_assoc]
    exact List.drop_left' h1
  have e2 : (c0.take (o + y.length) ++ z ++ c0.drop (o + y.length + z.length)).take o = c0.take o := by
    rw [List.append_assoc, List.take_append_of_le_length (by omega), List.take_take, Nat.min_eq_left (by omega)]
  rw [e1, e2]
  have h2 : (c0.take o ++ y ++ z).length = o + y.length + z.length := by rw [List.length_append, List.length_append, List.length_take]; omega
  rw [← List.append_assoc, ← h2, List.take_left]

theorem setRow_bel (w : World) (g B : Nat) (c : Array Value) (h : B ≤ g) : Below B w (w.setRow g c) :=
  ⟨rfl, rfl, rfl, by simp [World.setRow], fun k hk => setRow_other w g k _ (by omega)⟩

end Go.Proofs.Ytefmlbckbhlgdaa
namespace Go.Proofs.Ytefmlbckbhlgdaa
open Go.RowKit
/-- 'clear' of a row that may be written, whatever the size of an element. -/
theorem run_clear_k (w : World) (t e ty : TypeId) (z : Value) (g o n c : Nat) (cur : Array Value) (ht : Try.prog.underlying t = some (.slice e)) (hv : ∀ w, (zeroValue e).run Try.prog w = .ok z w) (h1 : ∀ u ∈ (Builtin.zeroCells z.cells n).toList, u.oneCell' = true)
    (hn : 0 < n) (hg : w.heap[g]? = some (.cells cur e (0, 0))) (hfit : o + (Builtin.zeroCells z.cells n).size ≤ cur.size) :
    (Builtin.clear_ #[t] ty #[.slice (some ⟨g, o, none⟩) n c]).run Try.prog w = .ok (.tuple #[]) (w.setRow g (cur.toList.take o ++ (Builtin.zeroCells z.cells n).toList ++ cur.toList.drop (o + (Builtin.zeroCells z.cells n).size)).toArray) := by
  have hst := run_storeCells_at Try.prog g o e (Builtin.zeroCells z.cells n).toList 0 cur w hg (by simpa using hfit) h1
  obtain ⟨m, rfl⟩ : ∃ m, n = m + 1 := ⟨n - 1, by omega⟩
  simp only [Nat.add_zero] at hst
  simp [Builtin.clear_, run_underlying ht, hv, hst]

end Go.Proofs.Ytefmlbckbhlgdaa
namespace Go.Proofs.Ytefmlbckbhlgdaa
open Go.RowKit
set_option maxRecDepth 100000 in
set_option maxHeartbeats 2000000 in
theorem insertP_any (v : Value) (l : List Pr) (i : Nat) (b : Pr) (gx : Nat) (w : World) (B : Nat) (hown : OwnE encP 41 w B v l) (hi : i ≤ l.length) (hB : B ≤ w.heap.size)
    (hx : RowAt w gx #[.string (mkS b.1), .string (mkS b.2)] 41) (hne : v.ownBlock ≠ some gx) (hl : l.length ≤ 1000000) :
    Calls Try.prog 40 #[v, .int .i64 i, .slice (some ⟨gx, 0, none⟩) 1 1] w fun e w' => ∃ v', e = .returned v' ∧ OwnE encP 41 w' B v' (l.take i ++ b :: l.drop i) ∧ Below B w w' := by
  have hsrc : RowE encP w (.slice (some ⟨gx, 0, none⟩) 1 1) [b] := .inr ⟨_, 1, rfl, Nat.le_refl _, by unfold maxLen; omega, fun j u hj => by
    have hadd : (⟨gx, 0, none⟩ : Addr).add j = ⟨gx, j, none⟩ := by unfold Addr.add; split <;> simp_all
    rw [hadd, hx.cell j]
    simpa [flat, encP] using hj⟩
  by_cases hin : i = l.length
  · subst hin
    obtain ⟨p, cap, rfl, h1, h2⟩ := hown.row.shape
    have e : l.take l.length ++ b :: l.drop l.length = l ++ [b] := by simp
    rw [e]
    have O := Lib.hid hown
    have R := Lib.hid hsrc
    clear hown hsrc hx hne e
    generalize hn : l.length = n at *
    have HN := Lib.hid hn
    clear hn
    go_enter Try.func40, Try.ntmps40
    go_wp2_with (at_builtin; refine wpList_append_rowE encP Try.underlying34 info_pr rfl rfl _ _ rfl B _ l rfl O.out _ [b] rfl R.out (by rw [HN.out]; unfold maxLen; simp; omega) (by rw [HN.out]; simp; omega) hB ?_)
    all_goals
      intro v' w' ho hb hz hn
      have HO := Lib.hid ho
      have HB := Lib.hid (hb _ (Below.refl B w))
      clear ho hb hn
      go_wp2_with fail
      go_ret
      exact ⟨_, rfl, HO.out, HB.out⟩
  · rcases hown.2 with ⟨hv, hn⟩ | ⟨g, cap, cur, rfl, hg, hc, hn, hcap, hsz, htk⟩
    · omega
    · have hsz3 : cur.size = cap * 2 := hsz
      have htk3 : cur.toList.take (l.length * 2) = flat encP l := htk
      have hne2 : gx ≠ g := fun e => hne (by rw [e]; rfl)
      have hcsW : ∀ W : World, W.heap[g]? = some (.cells cur 41 (0, 0)) → ∀ j u, (flat encP l)[j]? = some u → W.cell? ⟨g, j, none⟩ = some u := fun W hW j u hj => by
        have ho : OwnE encP 41 W B (.slice (some ⟨g, 0, none⟩) l.length cap) l := ⟨hown.1, .inr ⟨g, cap, cur, rfl, hg, hW, hn, hcap, hsz, htk⟩⟩
        have := World.ownsRow.cells ho rfl j u hj
        have hadd : (⟨g, 0, none⟩ : Addr).add j = ⟨g, j, none⟩ := by unfold Addr.add; split <;> simp_all
        rwa [hadd] at this
      have hcs := hcsW w hc
      have hfl := flat_length encP l
      have hov : ∀ q lb cb (W : World), RowAt W gx #[.string (mkS b.1), .string (mkS b.2)] 41 → W.heap[g]? = some (.cells cur 41 (0, 0)) → (callFunc 75 #[.slice (some ⟨gx, 0, none⟩) 1 1, .slice (some ⟨g, q, none⟩) lb cb]).run Try.prog W = .ok (.value (.bool false)) W := fun q lb cb W h1 h2 => by
        rw [run_callFunc_extern Try.func75 (by kernel_rfl) (by kernel_rfl) (by kernel_rfl) (e := Extern.SlicesOverlaps.overlaps #[34, 34] #[4]) (by kernel_rfl),
          Lib.run_overlaps_apart W 34 4 41 Try.underlying34 2 Try.sizeOf41 ⟨gx, 0, none⟩ ⟨g, q, none⟩ 1 1 lb cb hne2 41 41 2 (cap * 2) (by simp [World.shape?, show W.heap[gx]? = _ from h1]) (by simp [World.shape?, h2, hsz3]) (by omega) (h1.frozen 0) (h1.frozen 2)]
        rfl
      have hcap2 : cap ≤ 9223372036854775807 := by unfold maxLen at hcap; omega
      by_cases hroom : l.length + 1 ≤ cap
      · have hov2 := fun q lb cb => hov q lb cb w hx hc
        clear hov
        have hl3 : (l.length : Int) ≠ i := by omega
        have hlen : (l.take i ++ b :: l.drop i).length = l.length + 1 := by
          rw [List.length_append, List.length_cons, List.length_take, List.length_drop]; omega
        generalize hn' : l.length = n at *
        have hb1 : ¬ cap = i := by omega
        have hb2 : ¬ cap = i + 1 := by omega
        have hw1 : IntKind.i64.wrap ((i : Int) + 1) = (i : Int) + 1 := by rw [IntKind.wrap_i64]; omega
        have hb3 : (0 : Int) ≤ (i : Int) + 1 := by omega
        have htn : ((i : Int) + 1).toNat = i + 1 := by omega
        have hb4 : (i : Int) ≤ (n : Int) + 1 := by omega
        have hb5 : (i : Int) + 1 ≤ (n : Int) + 1 := by omega
        go_enter Try.func40, Try.ntmps40
        go_wp2_with (simp only [hov2])
        (refine region_tail 8 mix ?hB ?_; case hB => kernel_rfl); (simp only [List.take_succ_cons, List.take_zero, List.drop_succ_cons, List.drop_zero]; (iterate 8 (with_reducible refine wpStill_step ?_; intro K hK; go_simp; with_reducible refine hK _ ?_; clear hK K)); with_reducible refine wpStill_nil ?_)
        obtain ⟨i0, hi0, hz0, hz1, hz2⟩ := info_parts info_pr
        have hdl : (flat encP (l.drop i)).length = (n - i) * 2 := by rw [flat_length, List.length_drop, hn']; rfl
        have hdr : ∀ j u, (flat encP (l.drop i))[j]? = some u → w.drew.cell? ⟨g, i * 2 + j, none⟩ = some u := fun j u hj => by
          rw [← flat_drop, List.getElem?_drop] at hj
          exact hcs _ u hj
        refine wpList_copy_k rfl _ _ _ _ rfl _ _ rfl rfl _ _ (run_copy_k w.drew _ _ _ 41 i0 2 g _ _ _ _ _ _ cur 41 (flat encP (l.drop i)) Try.underlying34 hi0 hz1 hc ?_ ?_ ?_ (flat_one _ _)) ?_
        · rw [hdl, show Nat.min (n + 1 - i) (n - i) = n - i from Nat.min_eq_right (by omega)]
        · intro j v hj
          rw [Addr.add_lit]
          exact hdr j v hj
        · rw [hdl, hsz3]; omega
        have hclen : cur.toList.length = cap * 2 := by rw [Array.length_toList, hsz3]
        have HFin : Hid (∃ C2 : Array Value, C2 = (((cur.toList.take (i * 2 + (encP.cells b).length) ++ flat encP (l.drop i) ++ cur.toList.drop (i * 2 + (encP.cells b).length + (flat encP (l.drop i)).length)).take (i * 2) ++ encP.cells b ++ (cur.toList.take (i * 2 + (encP.cells b).length) ++ flat encP (l.drop i) ++ cur.toList.drop (i * 2 + (encP.cells b).length + (flat encP (l.drop i)).length)).drop (i * 2 + (encP.cells b).length))).toArray ∧ C2.size = cap * 2 ∧ C2.toList.take ((n + 1) * 2) = flat encP (l.take i ++ b :: l.drop i)) := Lib.hid (by
          refine ⟨_, rfl, ?_, ?_⟩
          · have := encP.len b
            simp only [List.size_toArray, List.length_append, List.length_take, List.length_drop, hclen, hdl, show (encP.cells b).length = 2 from rfl]
            omega
          · have hpt := put_take2 cur.toList (encP.cells b) (flat encP (l.drop i)) (i * 2) (by rw [hclen, hdl, show (encP.cells b).length = 2 from rfl]; omega)
            rw [show i * 2 + (encP.cells b).length + (flat encP (l.drop i)).length = (n + 1) * 2 by rw [hdl, show (encP.cells b).length = 2 from rfl]; omega] at hpt ⊢
            rw [hpt, flat_append, flat, ← flat_take, ← List.append_assoc]
            congr 2
            rw [← htk3, List.take_take, Nat.min_eq_left (by show i * 2 ≤ n * 2; omega)]
            rfl)
        obtain ⟨C2, hC2, hC2s, hC2t⟩ := HFin.out
        clear HFin
        rw [show (i + 1) * 2 = i * 2 + (encP.cells b).length from by rw [show (encP.cells b).length = 2 from rfl]; omega]
        generalize hC1 : (cur.toList.take (i * 2 + (encP.cells b).length) ++ flat encP (l.drop i) ++ cur.toList.drop (i * 2 + (encP.cells b).length + (flat encP (l.drop i)).length)) = C1 at *
        have hC1s : C1.length = cap * 2 := by
          rw [← hC1]
          simp only [List.length_append, List.length_take, List.length_drop, hclen, hdl, show (encP.cells b).length = 2 from rfl]
          omega
        have hr1 : (w.drew.setRow g C1.toArray).heap[g]? = some (.cells C1.toArray 41 (0, 0)) := setRow_heap w.drew g cur C1.toArray _ _ hc
        have hx1 : RowAt (w.drew.setRow g C1.toArray) gx #[.string (mkS b.1), .string (mkS b.2)] 41 := by
          unfold RowAt
          rw [setRow_other _ _ _ _ hne2]
          exact hx
        have hB1 : Below B w (w.drew.setRow g C1.toArray) := (Below.refl B w).drew.trans (setRow_bel _ _ _ _ hg)
        generalize w.drew.setRow g C1.toArray = W1 at *
        clear hov2 hx hsrc hc hC1 hcs hcsW hdr htk htk3 hfl hown
        have hm1 : Nat.min 1 (n + 1 - i) = 1 := Nat.min_eq_left (by omega)
        have hcp2 := run_copy_k W1 34 34 3 41 i0 2 g (i * 2) (n + 1 - i) (cap - i) ⟨gx, 0, none⟩ 1 1 C1.toArray 41 (encP.cells b) Try.underlying34 hi0 hz1 hr1 (by rw [hm1]; rfl)
          (fun j u hj => by rw [Addr.add_lit, Nat.zero_add, hx1.cell j]; simpa [encP] using hj) (by rw [List.size_toArray, hC1s, show (encP.cells b).length = 2 from rfl]; omega) (encP.one b)
        rw [hm1] at hcp2
        go_wp2_with (simp only [hcp2])
        go_ret
        rw [List.append_assoc] at hC2
        rw [← hC2]
        refine ⟨_, rfl, ⟨?_, .inr ⟨g, cap, C2, ?_, hg, setRow_heap W1 g _ C2 _ _ hr1, ?_, hcap, hC2s, ?_⟩⟩, hB1.trans (setRow_bel _ _ _ _ hg)⟩
        · rw [flat_length, hlen]
        · rw [hlen]; rfl
        · rw [hlen]; exact hroom
        · rw [hlen]; exact hC2t
      · have hlen : (l.take i ++ b :: l.drop i).length = l.length + 1 := by
          rw [List.length_append, List.length_cons, List.length_take, List.length_drop]; omega
        have hl3 : (l.length : Int) ≠ i := by omega
        generalize hn' : l.length = n at *
        have hcn : cap = n := by omega
        subst hcn
        clear hov hroom hn
        have hw0 : IntKind.i64.wrap ((cap : Int) + 1) = (cap : Int) + 1 := by rw [IntKind.wrap_i64]; omega
        have hw1 : IntKind.i64.wrap ((i : Int) + 1) = (i : Int) + 1 := by rw [IntKind.wrap_i64]; omega
        have hw2 : IntKind.i64.wrap ((cap : Int) + 1 - (i : Int)) = (cap : Int) + 1 - (i : Int) := by rw [IntKind.wrap_i64]; omega
        have hb3 : (0 : Int) ≤ (i : Int) + 1 := by omega
        have htn : ((i : Int) + 1).toNat = i + 1 := by omega
        have hb1 : ¬ cap = i := by omega
        obtain ⟨i0, hi0, hz0, hz1, hz2⟩ := info_parts info_pr
        have hgr := run_append_grow_zeros w 34 3 34 41 i0 _ .i64 .i64 Try.underlying34 Try.underlying3 hi0 hz0 ⟨g, 0, none⟩ i cap (flat encP (l.take i))
          (by rw [flat_length, List.length_take, hn', hz1, Nat.min_eq_left hi]; rfl) (fun j u hj => by
            rw [Addr.add_lit, Nat.zero_add]
            refine hcs j u ?_
            rw [← flat_take, List.getElem?_take] at hj
            split at hj
            · exact hj
            · cases hj) (cap + 1 - i) (by omega) (by omega) (by omega) (by omega) (by omega)
        rw [show i + (cap + 1 - i) = cap + 1 by omega, show ((cap + 1 - i : Nat) : Int) = (cap : Int) + 1 - (i : Int) by omega] at hgr
        have hG1 := grownCap_ge w (cap + 1) cap 41
        have hG2 := grownCap_le_maxLen w (cap + 1) cap 41 (by unfold maxLen; omega)
        generalize grownCap w (cap + 1) cap 41 = G at *
        have hG3 : (G : Int) ≤ 9223372036854775807 := by unfold maxLen at hG2; omega
        generalize hC0 : ((flat encP (l.take i)).toArray ++ Builtin.zeroCells (Value.agg #[Value.string ⟨#[]⟩, Value.string ⟨#[]⟩]).cells (cap + 1 - i) ++ Builtin.zeroCells (Value.agg #[Value.string ⟨#[]⟩, Value.string ⟨#[]⟩]).cells (G - (cap + 1))) = C0 at *
        have hC0s : C0.size = G * 2 := by
          rw [← hC0]
          simp only [Array.size_append, List.size_toArray, flat_length, size_zeroCells, List.length_take, hn', Nat.min_eq_left hi]
          show i * 2 + (cap + 1 - i) * 2 + (G - (cap + 1)) * 2 = G * 2
          omega
        have hC0t : C0.toList.take (i * 2) = flat encP (l.take i) := by
          rw [← hC0]
          simp only [Array.toList_append]
          rw [List.append_assoc]
          refine List.take_left' ?_
          rw [flat_length, List.length_take, hn', Nat.min_eq_left hi]; rfl
        go_enter Try.func40, Try.ntmps40
        go_wp2_with (at_builtin; refine Lib.wpList_append_run w rfl _ _ _ _ rfl _ _ rfl rfl _ _ hgr ?_)
        have hglt : g < w.heap.size := (Array.getElem?_eq_some_iff.mp hc).1
        have hxlt : gx < w.heap.size := (Array.getElem?_eq_some_iff.mp hx).1
        have hB1 : Below w.heap.size w (w.alloc (.cells C0 41)).drew := ((Below.refl _ w).alloc (Nat.le_refl _) _).drew
        have hr1 : (w.alloc (.cells C0 41)).drew.heap[w.heap.size]? = some (.cells C0 41 (0, 0)) := heap_alloc_new w _
        have hc1 : (w.alloc (.cells C0 41)).drew.heap[g]? = some (.cells cur 41 (0, 0)) := by rw [hB1.block g hglt]; exact hc
        have hx1 : RowAt (w.alloc (.cells C0 41)).drew gx #[.string (mkS b.1), .string (mkS b.2)] 41 := by unfold RowAt; rw [hB1.block gx hxlt]; exact hx
        have hB1' : Below B w (w.alloc (.cells C0 41)).drew := hB1.mono hB
        generalize (w.alloc (.cells C0 41)).drew = W1 at *
        generalize hg2 : w.heap.size = g2 at *
        have hgg : g ≠ g2 := by omega
        have hxg : gx ≠ g2 := by omega
        have hdl : (flat encP (l.drop i)).length = (cap - i) * 2 := by rw [flat_length, List.length_drop, hn']; rfl
        have hclen : C0.toList.length = G * 2 := by rw [Array.length_toList, hC0s]
        have hb3 : (encP.cells b).length = 2 := rfl
        have HFin : Hid (∃ C2 : Array Value, C2 = ((C0.toList.take (i * 2) ++ encP.cells b ++ C0.toList.drop (i * 2 + (encP.cells b).length)).take ((i + 1) * 2) ++ flat encP (l.drop i) ++ (C0.toList.take (i * 2) ++ encP.cells b ++ C0.toList.drop (i * 2 + (encP.cells b).length)).drop ((i + 1) * 2 + (flat encP (l.drop i)).length)).toArray ∧ C2.size = G * 2 ∧ C2.toList.take ((cap + 1) * 2) = flat encP (l.take i ++ b :: l.drop i)) := Lib.hid (by
          refine ⟨_, rfl, ?_, ?_⟩
          · simp only [List.size_toArray, List.length_append, List.length_take, List.length_drop, hclen, hdl, hb3]
            omega
          · have hpt := put_take C0.toList (encP.cells b) (flat encP (l.drop i)) (i * 2) (by rw [hclen, hdl, hb3]; omega)
            rw [show i * 2 + (encP.cells b).length + (flat encP (l.drop i)).length = (cap + 1) * 2 by rw [hdl, hb3]; omega, show i * 2 + (encP.cells b).length = (i + 1) * 2 by rw [hb3]; omega] at hpt
            rw [show (i + 1) * 2 + (flat encP (l.drop i)).length = (cap + 1) * 2 by rw [hdl]; omega, show i * 2 + (encP.cells b).length = (i + 1) * 2 by rw [hb3]; omega, hpt, flat_append, flat, hC0t, List.append_assoc])
        obtain ⟨C2, hC2, hC2s, hC2t⟩ := HFin.out
        clear HFin
        generalize hC1 : (C0.toList.take (i * 2) ++ encP.cells b ++ C0.toList.drop (i * 2 + (encP.cells b).length)) = C1 at *
        have hC1s : C1.length = G * 2 := by
          rw [← hC1]
          simp only [List.length_append, List.length_take, List.length_drop, hclen, hb3]
          omega
        have hm1 : Nat.min 1 (cap + 1 - i) = 1 := Nat.min_eq_left (by omega)
        have hcp1 := run_copy_k W1 34 34 3 41 i0 2 g2 (i * 2) (cap + 1 - i) (G - i) ⟨gx, 0, none⟩ 1 1 C0 41 (encP.cells b) Try.underlying34 hi0 hz1 hr1 (by rw [hm1]; rfl)
          (fun j u hj => by rw [Addr.add_lit, Nat.zero_add, hx1.cell j]; simpa [encP] using hj) (by rw [hC0s, hb3]; omega) (encP.one b)
        rw [hm1] at hcp1
        have hcp1' := hcp1
        rw [hC1] at hcp1'
        go_wp2_with (simp only [hcp1'])
        have hr2 : (W1.setRow g2 C1.toArray).heap[g2]? = some (.cells C1.toArray 41 (0, 0)) := setRow_heap W1 g2 C0 C1.toArray _ _ hr1
        have hc2 : (W1.setRow g2 C1.toArray).heap[g]? = some (.cells cur 41 (0, 0)) := by rw [setRow_other _ _ _ _ hgg]; exact hc1
        have hB2 : Below B w (W1.setRow g2 C1.toArray) := hB1'.trans (setRow_bel _ _ _ _ hB)
        generalize W1.setRow g2 C1.toArray = W2 at *
        clear hx hsrc hc hC1 hcs hfl hown hcp1 hcp1' hc1 hr1 hx1 hgr
        have hcs2 := hcsW W2.drew hc2
        have hm2 : Nat.min (cap - i) (cap - i) = cap - i := Nat.min_self _
        have hcp2 := run_copy_k W2.drew 34 34 3 41 i0 2 g2 ((i + 1) * 2) (cap - i) (G - (i + 1)) ⟨g, i * 2, none⟩ (cap - i) (cap - i) C1.toArray 41 (flat encP (l.drop i)) Try.underlying34 hi0 hz1 hr2 (by rw [hm2, hdl])
          (fun j u hj => by
            rw [Addr.add_lit]
            rw [← flat_drop, List.getElem?_drop] at hj
            exact hcs2 _ u hj) (by rw [List.size_toArray, hC1s, hdl]; omega) (flat_one _ _)
        rw [hm2, ← hC2] at hcp2
        clear hC2
        have hG4 : ¬ G = i + 1 := by omega
        (refine region_tail 8 mix ?hB ?_; case hB => kernel_rfl); (simp only [List.take_succ_cons, List.take_zero, List.drop_succ_cons, List.drop_zero]; (iterate 8 (with_reducible refine wpStill_step ?_; intro K hK; go_simp; with_reducible refine hK _ ?_; clear hK K)); with_reducible refine wpStill_nil ?_)
        refine wpList_copy_k rfl _ _ _ _ rfl _ _ rfl rfl _ _ hcp2 ?_
        go_wp2_with fail
        go_ret
        refine ⟨_, rfl, ⟨?_, .inr ⟨g2, G, C2, ?_, hB, setRow_heap W2.drew g2 _ C2 _ _ hr2, ?_, hG2, hC2s, ?_⟩⟩, hB2.drew.trans (setRow_bel _ _ _ _ hB)⟩
        · rw [flat_length, hlen]
        · rw [hlen]; rfl
        · rw [hlen]; exact hG1
        · rw [hlen]; exact hC2t
end Go.Proofs.Ytefmlbckbhlgdaa
namespace Go.Proofs.Ytefmlbckbhlgdaa
open Go.RowKit
set_option maxRecDepth 100000 in
set_option maxHeartbeats 2000000 in
theorem deleteP_any (v : Value) (l : List Pr) (i : Nat) (w : World) (B : Nat) (hown : OwnE encP 41 w B v l) (hi : i < l.length) (_hB : B ≤ w.heap.size) (hl : l.length ≤ 1000000) :
    Calls Try.prog 42 #[v, .int .i64 i, .int .i64 ((i : Int) + 1)] w fun e w' => ∃ v', e = .returned v' ∧ OwnE encP 41 w' B v' (l.take i ++ l.drop (i + 1)) ∧ Below B w w' := by
  rcases hown.2 with ⟨hv, hn⟩ | ⟨g, cap, cur, rfl, hg, hc, hn, hcap, hsz, htk⟩
  · omega
  · have hcap2 : cap ≤ 9223372036854775807 := by unfold maxLen at hcap; omega
    have hlt : (i : Int) + 1 ≤ l.length := by omega
    have hw1 : IntKind.i64.wrap ((i : Int) + 1) = (i : Int) + 1 := by rw [IntKind.wrap_i64]; omega
    have hb3 : (0 : Int) ≤ (i : Int) + 1 := by omega
    have htn : ((i : Int) + 1).toNat = i + 1 := by omega
    have hne : ¬ ((i : Int) = (i : Int) + 1) := by omega
    have hsz3 : cur.size = cap * 2 := hsz
    have htk3 : cur.toList.take (l.length * 2) = flat encP l := htk
    obtain ⟨i0, hi0, hz0, hz1, hz2⟩ := info_parts info_pr
    obtain ⟨m, hm⟩ : ∃ m, l.length = m + 1 := ⟨l.length - 1, by omega⟩
    have hclen : cur.toList.length = cap * 2 := by rw [Array.length_toList, hsz3]
    have hdl : (flat encP (l.drop (i + 1))).length = (m - i) * 2 := by rw [flat_length, List.length_drop, hm, show m + 1 - (i + 1) = m - i by omega]; rfl
    have hcsW : ∀ W : World, W.heap[g]? = some (.cells cur 41 (0, 0)) → ∀ j u, (flat encP l)[j]? = some u → W.cell? ⟨g, j, none⟩ = some u := fun W hW j u hj => by
      have ho : OwnE encP 41 W B (.slice (some ⟨g, 0, none⟩) l.length cap) l := ⟨hown.1, .inr ⟨g, cap, cur, rfl, hg, hW, hn, hcap, hsz, htk⟩⟩
      have := World.ownsRow.cells ho rfl j u hj
      have hadd : (⟨g, 0, none⟩ : Addr).add j = ⟨g, j, none⟩ := by rw [Addr.add_lit, Nat.zero_add]
      rwa [hadd] at this
    have hlen : (l.take i ++ l.drop (i + 1)).length = m := by
      rw [List.length_append, List.length_take, List.length_drop, hm]; omega
    have HC1 : Hid (∃ C1 : Array Value, C1 = (cur.toList.take (i * 2) ++ flat encP (l.drop (i + 1)) ++ cur.toList.drop (i * 2 + (flat encP (l.drop (i + 1))).length)).toArray ∧ C1.size = cap * 2 ∧ C1.toList.take (m * 2) = flat encP (l.take i ++ l.drop (i + 1))) := Lib.hid (by
      refine ⟨_, rfl, ?_, ?_⟩
      · simp only [List.size_toArray, List.length_append, List.length_take, List.length_drop, hclen, hdl]
        omega
      · have e1 : (cur.toList.take (i * 2) ++ flat encP (l.drop (i + 1))).length = m * 2 := by rw [List.length_append, List.length_take, hclen, hdl]; omega
        show (cur.toList.take (i * 2) ++ flat encP (l.drop (i + 1)) ++ cur.toList.drop (i * 2 + (flat encP (l.drop (i + 1))).length)).take (m * 2) = _
        rw [← e1, List.take_left, flat_append, ← flat_take, ← htk3, List.take_take, Nat.min_eq_left (by show i * 2 ≤ _; omega)]
        rfl)
    obtain ⟨C1, hC1, hC1s, hC1t⟩ := HC1.out
    clear HC1
    have hr1 : (w.drew.setRow g C1).heap[g]? = some (.cells C1 41 (0, 0)) := setRow_heap w.drew g cur C1 _ _ hc
    have hB1 : Below B w (w.drew.setRow g C1) := (Below.refl B w).drew.trans (setRow_bel _ _ _ _ hg)
    have happ : ∀ a : Addr, (∀ j u, (flat encP (l.drop (i + 1)))[j]? = some u → w.drew.cell? (a.add j) = some u) → ∀ c, (Builtin.append_ #[34, 34] 34 #[.slice (some ⟨g, 0, none⟩) i cap, .slice (some a) (m - i) c]).run Try.prog w.drew = .ok (.slice (some ⟨g, 0, none⟩) m cap) (w.drew.setRow g C1) := fun a ha c => by
      have := run_append_room w.drew 34 34 41 i0 Try.underlying34 hi0 g i cap cur hc a (m - i) c (flat encP (l.drop (i + 1))) (by rw [hdl, hz1]) ha (flat_one _ _) (by omega) (by rw [hdl, hz1, hsz3]; show i * 2 + (m - i) * 2 ≤ cap * 2; omega)
      rw [hz1, show i + (m - i) = m by omega] at this
      rw [hC1]
      exact this
    have hclr := run_clear_k (w.drew.setRow g C1) 34 41 0 (.agg #[.string ⟨#[]⟩, .string ⟨#[]⟩]) g (m * 2) 1 (cap - m) C1 Try.underlying34 (fun w => by simp [zeroValue, typeInfo, hi0, hz0]) (fun u hu => by
        have h2 : (Builtin.zeroCells (Value.agg #[.string ⟨#[]⟩, .string ⟨#[]⟩]).cells 1).toList = [.string ⟨#[]⟩, .string ⟨#[]⟩] := by kernel_rfl
        rw [h2] at hu
        simp only [List.mem_cons, List.mem_nil_iff, or_false, or_self] at hu
        subst hu
        rfl) (by decide) hr1 (by rw [size_zeroCells, hC1s]; show m * 2 + 1 * 2 ≤ cap * 2; omega)
    have HC2 : Hid (∃ C2 : Array Value, C2 = (C1.toList.take (m * 2) ++ (Builtin.zeroCells (Value.agg #[.string ⟨#[]⟩, .string ⟨#[]⟩]).cells 1).toList ++ C1.toList.drop (m * 2 + (Builtin.zeroCells (Value.agg #[.string ⟨#[]⟩, .string ⟨#[]⟩]).cells 1).size)).toArray ∧ C2.size = cap * 2 ∧ C2.toList.take (m * 2) = flat encP (l.take i ++ l.drop (i + 1))) := Lib.hid (by
      have hl1 : C1.toList.length = cap * 2 := by rw [Array.length_toList, hC1s]
      refine ⟨_, rfl, ?_, ?_⟩
      · simp only [List.size_toArray, List.length_append, List.length_take, List.length_drop, hl1, Array.length_toList, size_zeroCells]
        show min (m * 2) (cap * 2) + 1 * 2 + (cap * 2 - (m * 2 + 1 * 2)) = cap * 2
        omega
      · have e1 : (C1.toList.take (m * 2)).length = m * 2 := by rw [List.length_take, hl1]; omega
        show (C1.toList.take (m * 2) ++ (Builtin.zeroCells (Value.agg #[.string ⟨#[]⟩, .string ⟨#[]⟩]).cells 1).toList ++ C1.toList.drop (m * 2 + (Builtin.zeroCells (Value.agg #[.string ⟨#[]⟩, .string ⟨#[]⟩]).cells 1).size)).take (m * 2) = _
        rw [List.append_assoc]
        rw [List.take_append_of_le_length (by omega), List.take_take, Nat.min_self]
        exact hC1t)
    obtain ⟨C2, hC2, hC2s, hC2t⟩ := HC2.out
    clear HC2
    rw [← hC2] at hclr
    generalize w.drew.setRow g C1 = W1 at *
    have hfin : Below B w (W1.setRow g C2) := hB1.trans (setRow_bel _ _ _ _ hg)
    have hrow : (W1.setRow g C2).heap[g]? = some (.cells C2 41 (0, 0)) := setRow_heap W1 g C1 C2 _ _ hr1
    have HCW := Lib.hid (hcsW w.drew hc)
    have HAPP := Lib.hid happ
    have HCLR := Lib.hid hclr
    clear hC1 hC2 hcsW happ hclr htk htk3 hc hown hC1t hr1 hclen hsz hsz3
    have hmc : m + 1 ≤ cap := by omega
    have hic : i ≤ cap := by omega
    have him : i ≤ m := by omega
    have hcm : ¬ cap = m := by omega
    rw [hm] at hlt hn hl hi ⊢
    by_cases hci : cap = i + 1
    · obtain rfl : m = i := by omega
      subst hci
      have hmm : (m : Int) ≤ (m : Int) + 1 := by omega
      go_enter Try.func42, Try.ntmps42
      go_wp2_with fail
      (refine region_tail 6 mix ?hB ?_; case hB => kernel_rfl); (simp only [List.take_succ_cons, List.take_zero, List.drop_succ_cons, List.drop_zero]; (iterate 6 (with_reducible refine wpStill_step ?_; intro K hK; go_simp; with_reducible refine hK _ ?_; clear hK K)); with_reducible refine wpStill_nil ?_)
      have HA := HAPP.out
      rw [Nat.sub_self] at HA
      refine Lib.wpList_append_run w.drew rfl _ _ _ _ rfl _ _ rfl rfl _ _ (HA ⟨g, 0, none⟩ (fun j u hj => by
        rw [List.getElem?_eq_none (by omega)] at hj
        cases hj) 0) ?_
      have hclr2 := HCLR.out
      rw [show m + 1 - m = 1 by omega] at hclr2
      go_wp2_with (simp only [hclr2])
      go_ret
      exact ⟨_, rfl, ⟨by rw [flat_length], .inr ⟨g, m + 1, C2, by rw [hlen]; rfl, hg, hrow, by rw [hlen]; omega, hcap, hC2s, by rw [hlen]; exact hC2t⟩⟩, hfin⟩
    · go_enter Try.func42, Try.ntmps42
      go_wp2_with fail
      (refine region_tail 6 mix ?hB ?_; case hB => kernel_rfl); (simp only [List.take_succ_cons, List.take_zero, List.drop_succ_cons, List.drop_zero]; (iterate 6 (with_reducible refine wpStill_step ?_; intro K hK; go_simp; with_reducible refine hK _ ?_; clear hK K)); with_reducible refine wpStill_nil ?_)
      refine Lib.wpList_append_run w.drew rfl _ _ _ _ rfl _ _ rfl rfl _ _ (HAPP.out ⟨g, (i + 1) * 2, none⟩ (fun j u hj => by
        rw [Addr.add_lit]
        rw [← flat_drop, List.getElem?_drop] at hj
        exact HCW.out _ u hj) _) ?_
      have hclr2 := HCLR.out
      go_wp2_with (simp only [hclr2])
      go_ret
      exact ⟨_, rfl, ⟨by rw [flat_length], .inr ⟨g, cap, C2, by rw [hlen]; rfl, hg, hrow, by rw [hlen]; omega, hcap, hC2s, by rw [hlen]; exact hC2t⟩⟩, hfin⟩
end Go.Proofs.Ytefmlbckbhlgdaa
namespace Go.Proofs.Ytefmlbckbhlgdaa
open Go.RowKit Go.Shelf
set_option maxRecDepth 100000
theorem cmp_lt : ∀ a b : List UInt8, decide (Lib.compareBytes a b < 0) = ltL a b
  | [], [] => rfl
  | [], _ :: _ => rfl
  | _ :: _, [] => rfl
  | x :: a, y :: b => by
    unfold Lib.compareBytes ltL Op.bytesLess
    by_cases h : x < y
    · simp [h]
    · by_cases h2 : y < x
      · have hne : ¬ x = y := fun e => by subst e; exact UInt8.lt_irrefl _ h2
        simp [h, h2, hne]
      · have he : x = y := UInt8.le_antisymm (UInt8.not_lt.1 h2) (UInt8.not_lt.1 h)
        subst he
        simp [UInt8.lt_irrefl]
        have := cmp_lt a b
        unfold ltL at this
        simpa using this
theorem cmp_zero : ∀ a b : List UInt8, (Lib.compareBytes a b == 0) = decide (a = b)
  | [], [] => rfl
  | [], _ :: _ => rfl
  | _ :: _, [] => rfl
  | x :: a, y :: b => by
    unfold Lib.compareBytes
    by_cases h : x < y
    · have hne : ¬ x = y := fun e => by subst e; exact UInt8.lt_irrefl _ h
      simp [h, hne]
    · by_cases h2 : y < x
      · have hne : ¬ x = y := fun e => by subst e; exact UInt8.lt_irrefl _ h2
        simp [h, h2, hne]
      · have he : x = y := UInt8.le_antisymm (UInt8.not_lt.1 h2) (UInt8.not_lt.1 h)
        subst he
        simp [UInt8.lt_irrefl]
        simpa using cmp_zero a b
theorem idxL_at {k : List UInt8} : ∀ {l : List Pr} {i : Nat}, i ≤ l.length → (∀ q p, q < i → l[q]? = some p → ltL p.1 k = true) → (∀ p, l[i]? = some p → ltL p.1 k = false) → idxL k l = i
  | [], i, h, _, _ => by simp at h; subst h; rfl
  | p :: l, 0, _, _, h2 => by rw [idxL, if_neg (by rw [h2 p rfl]; simp)]
  | p :: l, i + 1, h, h1, h2 => by
    rw [idxL, if_pos (h1 0 p (by omega) rfl), idxL_at (i := i) (by simpa using h) (fun q x hq hx => h1 (q + 1) x (by omega) (by simpa using hx)) (fun x hx => h2 x (by simpa using hx))]
theorem found_at {k : List UInt8} {l : List Pr} (hs : sortP l) {p : Pr} (hp : l[idxL k l]? = some p) : (getL k l).isSome = decide (p.1 = k) := by
  cases h : getL k l with
  | some v =>
    have := idxL_has hs v h
    rw [hp] at this
    obtain rfl := Option.some.inj this
    simp
  | none =>
    have := getL_not_mem h p (List.mem_of_getElem? hp)
    simp [this]
theorem found_none {k : List UInt8} {l : List Pr} (hs : sortP l) (h : idxL k l = l.length) : (getL k l).isSome = false := by
  cases hg : getL k l with
  | none => rfl
  | some v =>
    have := idxL_has hs v hg
    rw [h, List.getElem?_eq_none (Nat.le_refl _)] at this
    cases this

theorem cmpST_any (a b : ByteArray) (w : World) : Calls Try.prog 124 #[.string a, .string b] w fun e w' => e = .returned (.int .i64 (Lib.compareBytes a.data.toList b.data.toList)) ∧ w = w' := by
  go_enter Try.func124, Try.ntmps124
  go_wp2
  rw [run_callFunc_extern Try.func160 (by kernel_rfl) (by kernel_rfl) (by kernel_rfl) (e := Extern.BytealgCompare.compare) (by kernel_rfl), Lib.run_compareString]
  simp only [Result.andThen]
  rw [Oper.upon_value]
  go_wp2
  go_ret
  exact ⟨rfl, rfl⟩
theorem cmpT_any (a b : ByteArray) (w : World) : Calls Try.prog 74 #[.string a, .string b] w fun e w' => e = .returned (.int .i64 (Lib.compareBytes a.data.toList b.data.toList)) ∧ w = w' := by
  go_enter Try.func74, Try.ntmps74
  go_wp2_with (go_at_call 124; (with_reducible refine (cmpST_any _ _ _).mono ?_); rintro e w' ⟨rfl, rfl⟩)
  go_ret
  exact ⟨rfl, rfl⟩
theorem find1_any (p : Pr) (k : List UInt8) (w : World) : Calls Try.prog 73 #[.agg #[.string (mkS p.1), .string (mkS p.2)], .string (mkS k)] w fun e w' => e = .returned (.int .i64 (Lib.compareBytes p.1 k)) ∧ Below w.heap.size w w' := by
  have KC := Lib.hid (fun W => cmpT_any (mkS p.1) (mkS k) W)
  rw [show (mkS p.1).data.toList = p.1 from rfl, show (mkS k).data.toList = k from rfl] at KC
  have HB := prAlloc w p
  have c0 := (RowAt.new w #[.string (mkS p.1), .string (mkS p.2)] 41).c2.1
  go_enter Try.func73, Try.ntmps73
  go_wp2_with (go_at_call 74; (with_reducible refine (KC.out _).mono ?_); rintro e w' ⟨rfl, rfl⟩)
  go_ret
  exact ⟨rfl, HB⟩

set_option maxHeartbeats 4000000 in
theorem search_any (l : List Pr) (k : List UInt8) (v : Value) (w : World) (h : RP w v l) (hs : sortP l) (hl : l.length ≤ 100000) :
    Calls Try.prog 72 #[v, .string (mkS k), .func (.func 73) #[] #[]] w fun e w' => e = .returned (.tuple #[.int .i64 (idxL k l), .bool (getL k l).isSome]) ∧ Below w.heap.size w w' := by
  have eg : ∀ args w, (callFunc 73 args).run Try.prog w = .ok (.enter 73 args) w := fun args w => by kernel_rfl
  have HIX := Lib.hid (fun i => @idxL_at k l i)
  have HFA := Lib.hid (fun p => @found_at k l hs p)
  have HFN := Lib.hid (@found_none k l hs)
  have hw : l.Pairwise (fun a b => ltL b.1 k = true → ltL a.1 k = true) := List.Pairwise.imp (fun h1 h2 => ltL_trans _ _ _ h1 h2) hs
  have HW := Lib.hid (fun (a b : Nat) (p q : Pr) (hab : a < b) (hp : l[a]? = some p) (hq : l[b]? = some q) (hlt : ltL q.1 k = true) => show ltL p.1 k = true from by
    obtain ⟨h1, e1⟩ := List.getElem?_eq_some_iff.1 hp
    obtain ⟨h2, e2⟩ := List.getElem?_eq_some_iff.1 hq
    have := List.pairwise_iff_getElem.1 hw a b h1 h2 hab
    rw [e1, e2] at this
    exact this hlt)
  obtain ⟨pv, cv, rfl, z1, z2⟩ := RowE.shape encP h
  have HR := Lib.hid h
  have KF := Lib.hid (fun p W => find1_any p k W)
  generalize (getL k l).isSome = b at *
  generalize idxL k l = ix at *
  generalize hn : l.length = n at *
  replace hn := Lib.hid hn
  clear h hs hw
  go_enter Try.func72, Try.ntmps72
  go_upto_region 3 with (fail)
  go_loopw [9, 10] (fun s9 s10 wr => ∃ (i j : Nat), i ≤ j ∧ j ≤ n ∧ s9 = .int .i64 i ∧ s10 = .int .i64 j ∧ Hid (∀ q p, q < i → l[q]? = some p → ltL p.1 k = true) ∧ Hid (∀ q p, j ≤ q → l[q]? = some p → ltL p.1 k = false) ∧ Hid (Below w.heap.size w wr)) (fun s9 s10 _ => (intOf s10).toNat - (intOf s9).toNat)
  case atStart => exact ⟨0, n, Nat.zero_le _, Nat.le_refl _, rfl, rfl, Lib.hid (fun q p hq => by omega), Lib.hid (fun q p hq hp => by rw [List.getElem?_eq_none (by rw [hn.out]; exact hq)] at hp; cases hp), Lib.hid (Below.refl _ _)⟩
  case round =>
    obtain ⟨i, j, hij, hjn, rfl, rfl, h1, h2, hb⟩ := hrel
    have H1 := Lib.hid h1.out
    have H2 := Lib.hid h2.out
    have HB := Lib.hid hb.out
    clear h1 h2 hb
    by_cases hlt : i < j
    · obtain ⟨m, hm⟩ : ∃ m, (i + j) / 2 = m := ⟨_, rfl⟩
      have hm1 : i ≤ m := by omega
      have hm2 : m < j := by omega
      obtain ⟨x, hx⟩ : ∃ x, l[m]? = some x := ⟨_, List.getElem?_eq_getElem (by rw [hn.out]; omega)⟩
      obtain ⟨a, rfl, c0, c1⟩ := RP.at (RP.below HR.out HB.out (Nat.le_refl _)) hx
      have KF1 := Lib.hid (KF.out x)
      have q1 : IntKind.i64.wrap ((i : Int) + j) = (i : Int) + j := by rw [IntKind.wrap_i64]; omega
      have hmi : ((i : Int) + j) / 2 = m := by omega
      have HM := Lib.hid hm
      clear hm
      have hcl := cmp_lt x.1 k
      obtain ⟨xk, xv⟩ := x
      simp only at c0 c1 hcl KF1
      generalize Lib.compareBytes xk k = cz at *
      cases hl2 : ltL xk k
      · rw [hl2] at hcl
        have hcz : ¬ cz < 0 := of_decide_eq_false hcl
        have HN2 := Lib.hid (show ∀ q p, m ≤ q → l[q]? = some p → ltL p.1 k = false from fun q p hq hp => by
          cases e : ltL p.1 k with
          | false => rfl
          | true =>
            rcases Nat.lt_or_ge m q with h | h
            · have := HW.out m q (xk, xv) p h hx hp e
              rw [hl2] at this
              cases this
            · obtain rfl : m = q := by omega
              rw [hx] at hp
              obtain rfl := Option.some.inj hp
              rw [hl2] at e
              cases e)
        clear hx hl2 hcl
        go_wp2_with (go_at_fn 73; (with_reducible refine (KF1.out _).mono ?_); rintro e w2 ⟨rfl, hb2⟩; have HB2 := Lib.hid (HB.out.trans (hb2.mono HB.out.size)); clear hb2)
        exact ⟨⟨i, m, by omega, by omega, by simp, by simp, H1, HN2, HB2⟩, by simp [intOf]; omega⟩
      · rw [hl2] at hcl
        have hcz : cz < 0 := of_decide_eq_true hcl
        have HN2 := Lib.hid (show ∀ q p, q < m + 1 → l[q]? = some p → ltL p.1 k = true from fun q p hq hp => by
          rcases Nat.lt_or_ge q m with h | h
          · exact HW.out q m p (xk, xv) h hp hx hl2
          · obtain rfl : m = q := by omega
            rw [hx] at hp
            obtain rfl := Option.some.inj hp
            exact hl2)
        clear hx hl2 hcl
        go_wp2_with (go_at_fn 73; (with_reducible refine (KF1.out _).mono ?_); rintro e w2 ⟨rfl, hb2⟩; have HB2 := Lib.hid (HB.out.trans (hb2.mono HB.out.size)); clear hb2)
        exact ⟨⟨m + 1, j, by omega, by omega, by simp, by simp, HN2, H2, HB2⟩, by simp [intOf]; omega⟩
    · obtain rfl : i = j := by omega
      have hix := HIX.out i (by omega) (fun q p hq hp => H1.out q p hq hp) (fun p hp => H2.out i p (Nat.le_refl _) hp)
      subst hix
      by_cases hin : ix < n
      · obtain ⟨x, hx⟩ : ∃ x, l[ix]? = some x := ⟨_, List.getElem?_eq_getElem (by rw [hn.out]; exact hin)⟩
        obtain ⟨a, rfl, c0, c1⟩ := RP.at (RP.below HR.out HB.out (Nat.le_refl _)) hx
        have KF1 := Lib.hid (KF.out x)
        have hb := HFA.out x hx
        have hcz := cmp_zero x.1 k
        rw [← hb] at hcz
        obtain ⟨xk, xv⟩ := x
        simp only at c0 c1 hcz KF1
        have HCZ := Lib.hid hcz
        generalize Lib.compareBytes xk k = cz at *
        clear hx hb hcz
        have hcb := HCZ.out
        go_wp2_with (go_at_fn 73; (with_reducible refine (KF1.out _).mono ?_); rintro e w2 ⟨rfl, hb2⟩; have HB2 := Lib.hid (HB.out.trans (hb2.mono HB.out.size)); clear hb2)
        go_ret2
        exact ⟨rfl, HB2.out⟩
      · have hfn := HFN.out (by omega)
        have HFB := Lib.hid hfn
        clear hfn
        go_wp2
        go_ret2
        rw [HFB.out]
        exact ⟨rfl, HB.out⟩
theorem find_any (l : List Pr) (k : List UInt8) (v : Value) (w : World) (h : RP w v l) (hs : sortP l) (hl : l.length ≤ 100000) :
    Calls Try.prog 38 #[v, .string (mkS k)] w fun e w' => e = .returned (.tuple #[.int .i64 (idxL k l), .bool (getL k l).isSome]) ∧ Below w.heap.size w w' := by
  have KS := Lib.hid (search_any l k v w h hs hl)
  generalize idxL k l = ix at *
  generalize (getL k l).isSome = b at *
  clear h hs
  go_enter Try.func38, Try.ntmps38
  go_wp2_with (go_at_call 72; (with_reducible refine KS.out.mono ?_); rintro e w2 ⟨rfl, hb2⟩)
  go_ret2
  exact ⟨rfl, hb2⟩
end Go.Proofs.Ytefmlbckbhlgdaa

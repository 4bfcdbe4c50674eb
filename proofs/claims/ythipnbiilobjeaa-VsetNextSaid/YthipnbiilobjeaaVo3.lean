/- Vote: slices.Insert on a row of the call's own. -/
import Derived.Test.YthipnbiilobjeaaVo2
import Derived.Laws.CopyRow
import Derived.Lib.AppendZeros
import Derived.Lib.Overlaps
import Derived.Test.YthipnbiilobjeaaReg
namespace Go.Proofs.Ythipnbiilobjeaa
open Go.RowKit

/-- 'copy' into a row that may be written, whatever the size of an element. -/
theorem run_copy_k (w : World) (dT sT ty elem : TypeId) (i0 : TypeInfo) (k : Nat) (g o dLen dCap : Nat) (a : Addr) (sLen sCap : Nat) (cur : Array Value) (t : TypeId) (cs : List Value)
    (hu : Try.prog.underlying dT = some (.slice elem)) (hi : Try.prog.info? elem = some i0) (hk : i0.size = k)
    (hg : w.heap[g]? = some (.cells cur t (0, 0))) (hn : cs.length = Nat.min sLen dLen * k)
    (hsrc : ∀ j v, cs[j]? = some v → w.cell? (a.add j) = some v) (hfit : o + cs.length ≤ cur.size) (h1 : ∀ v ∈ cs, v.oneCell' = true) :
    (Builtin.copy_ #[dT, sT] ty #[.slice (some ⟨g, o, none⟩) dLen dCap, .slice (some a) sLen sCap]).run Try.prog w =
      .ok (goInt (Nat.min sLen dLen)) (w.setRow g (cur.toList.take o ++ cs ++ cur.toList.drop (o + cs.length)).toArray) := by
  have hl := run_loadCells_list (P := Try.prog) w a cs hsrc
  have hst := run_storeCells_at Try.prog g o t cs 0 cur w hg (by simpa using hfit) h1
  simp [Builtin.copy_, run_underlying hu, Builtin.lenOf, Builtin.firstCells, sizeOf, typeInfo, hi, hk, ← hn, hl, hst]

theorem wpList_copy_k {ops : Array Oper} {rest : List Oper} {o : Oper} {a : Act} {Q : Exit → Act → World → Prop} {w : World} (hgd : o.guard = Option.none) (d s : Operand) (t t' : TypeId)
    (ho : o.op = .call { callee := .builtin .copy, args := #[d, s], argTypes := #[t, t'] }) (v u : Value) (hd : a.eval d = v) (hs : a.eval s = u) (v' : Value) (w' : World)
    (hr : (Builtin.copy_ #[t, t'] o.type #[v, u]).run Try.prog w = .ok v' w') (h : wpList Try.prog ops Q rest (a.put o.dst v') w') : wpList Try.prog ops Q (o :: rest) a w := by
  refine wpList_plain hgd fun _ hK => ?_
  unfold Oper.wp execOp
  simp only [ho, resolve, invoke, builtin, Sem.run_bind, Sem.run_pure, Result.andThen_ok, List.map_toArray, List.map_cons, List.map_nil, hd, hs, hr]
  exact hK _ _ h

/-- append(s[:i], make([]T, n)...) where there is no room: a new row. -/
theorem run_append_grow_zeros (w : World) (t tn ty e : TypeId) (i : TypeInfo) (z : Value) (k kn : IntKind) (ht : Try.prog.underlying t = some (.slice e)) (htn : Try.prog.underlying tn = some (.int kn)) (hi : Try.prog.info? e = some i) (hz : i.zero = some z)
    (b : Addr) (sLen sCap : Nat) (olds : List Value) (hlo : olds.length = sLen * i.size) (holds : ∀ j v, olds[j]? = some v → w.cell? (b.add j) = some v)
    (n : Nat) (h0 : 0 < n) (hs : 0 < i.size) (hg : sCap < sLen + n) (h63 : (sLen + n : Nat) ≤ 1000000000) (hby : i.bytes ≤ 100) :
    (Builtin.append_ #[t, tn] ty #[.slice (some b) sLen sCap, .int k n]).run Try.prog w =
      .ok (.slice (some ⟨w.heap.size, 0, none⟩) (sLen + n) (grownCap w (sLen + n) sCap e)) (w.drew.alloc (.cells (olds.toArray ++ Builtin.zeroCells z.cells n ++ Builtin.zeroCells z.cells (grownCap w (sLen + n) sCap e - (sLen + n))) e)) := by
  have hn : n ≠ 0 := by omega
  have hroom : ¬ (sLen + n ≤ sCap) := by omega
  have hw : IntKind.i64.wrap (n : Int) = n := by rw [IntKind.wrap_i64]; omega
  have h63' : ¬ (9223372036854775807 < (sLen : Int) + (n : Int)) := by omega
  have hmul : (sLen + n) * i.bytes ≤ 140737488355328 := Nat.le_trans (Nat.mul_le_mul h63 hby) (by omega)
  have h48' : ¬ (281474976710656 < Builtin.nextslicecap (sLen + n) sCap * i.bytes) := by have := growslice_fits hg hmul; omega
  have hmul2 : n * i.bytes ≤ 140737488355328 := Nat.le_trans (Nat.mul_le_mul_right _ (by omega)) hmul
  have h48i : ¬ (281474976710656 < (n : Int) * (i.bytes : Int)) := by
    rw [← Int.natCast_mul]
    omega
  have hneg : ¬ ((n : Int) < 0) := by omega
  have hns : ¬ (n * i.size = 0) := Nat.mul_ne_zero hn (by omega)
  have hl := run_firstCells_some (P := Try.prog) w.drew i.size sLen b sLen sCap olds hlo holds
  simp [Builtin.append_, run_underlying ht, run_underlying htn, sizeOf, typeInfo, zeroValue, hi, hz, asInt, asIntOf, hw, hn, hneg, hns, hroom, h63', h48', h48i, Question.forced, hl, newRow, grownCap]

theorem put_take (c0 y z : List Value) (o : Nat) (h : o + y.length + z.length ≤ c0.length) :
    ((((c0.take o ++ y ++ c0.drop (o + y.length)).take (o + y.length)) ++ z ++ (c0.take o ++ y ++ c0.drop (o + y.length)).drop (o + y.length + z.length)).take (o + y.length + z.length)) = c0.take o ++ y ++ z := by
  have h1 : (c0.take o ++ y).length = o + y.length := by rw [List.length_append, List.length_take]; omega
  have e1 : (c0.take o ++ y ++ c0.drop (o + y.length)).take (o + y.length) = c0.take o ++ y := by rw [← h1, List.take_left]
  rw [e1]
  have h2 : (c0.take o ++ y ++ z).length = o + y.length + z.length := by rw [List.length_append, h1]
  rw [← h2, List.take_left]

theorem put_take2 (c0 y z : List Value) (o : Nat) (h : o + y.length + z.length ≤ c0.length) :
    (((c0.take (o + y.length) ++ z ++ c0.drop (o + y.length + z.length)).take o ++ y ++ (c0.take (o + y.length) ++ z ++ c0.drop (o + y.length + z.length)).drop (o + y.length)).take (o + y.length + z.length)) = c0.take o ++ y ++ z := by
  have h1 : (c0.take (o + y.length)).length = o + y.length := by rw [List.length_take]; omega
  have e1 : (c0.take (o + y.length) ++ z ++ c0.drop (o + y.length + z.length)).drop (o + y.length) = z ++ c0.drop (o + y.length + z.length) := by
    rw [List.append_assoc]
    exact List.drop_left' h1
  have e2 : (c0.take (o + y.length) ++ z ++ c0.drop (o + y.length + z.length)).take o = c0.take o := by
    rw [List.append_assoc, List.take_append_of_le_length (by omega), List.take_take, Nat.min_eq_left (by omega)]
  rw [e1, e2]
  have h2 : (c0.take o ++ y ++ z).length = o + y.length + z.length := by rw [List.length_append, List.length_append, List.length_take]; omega
  rw [← List.append_assoc, ← h2, List.take_left]

theorem below_setRow (w : World) (g B : Nat) (c : Array Value) (h : B ≤ g) : Below B w (w.setRow g c) :=
  ⟨rfl, rfl, rfl, by simp [World.setRow], fun k hk => setRow_other w g k _ (by omega)⟩

set_option maxRecDepth 100000 in
set_option maxHeartbeats 2000000 in
theorem insertB_any (v : Value) (l : List Bal) (i : Nat) (b : Bal) (gx : Nat) (w : World) (B : Nat) (hown : OwnE encB 92 w B v l) (hi : i ≤ l.length) (hB : B ≤ w.heap.size)
    (hx : RowAt w gx #[.string b.1, .string b.2.1, .bool b.2.2] 92) (hne : v.ownBlock ≠ some gx) (hl : l.length ≤ 1000000) :
    Calls Try.prog 101 #[v, .int .i64 i, .slice (some ⟨gx, 0, none⟩) 1 1] w fun e w' => ∃ v', e = .returned v' ∧ OwnE encB 92 w' B v' (l.take i ++ b :: l.drop i) ∧ Below B w w' := by
  have hsrc : RowE encB w (.slice (some ⟨gx, 0, none⟩) 1 1) [b] := .inr ⟨_, 1, rfl, Nat.le_refl _, by unfold maxLen; omega, fun j u hj => by
    have hadd : (⟨gx, 0, none⟩ : Addr).add j = ⟨gx, j, none⟩ := by unfold Addr.add; split <;> simp_all
    rw [hadd, hx.cell j]
    simpa [flat, encB] using hj⟩
  by_cases hin : i = l.length
  · subst hin
    obtain ⟨p, cap, rfl, h1, h2⟩ := hown.row.shape
    have e : l.take l.length ++ b :: l.drop l.length = l ++ [b] := by simp
    rw [e]
    have O := Lib.hid hown
    have R := Lib.hid hsrc
    clear hown hsrc hx hne e
    generalize hn : l.length = n at *
    have HN := Lib.hid hn
    clear hn
    go_enter Try.func101, Try.ntmps101
    go_wp2_with (at_builtin; refine wpList_append_rowB rfl _ _ rfl B _ l rfl O.out _ [b] rfl R.out (by rw [HN.out]; simp; omega) hB ?_)
    all_goals
      intro v' w' ho hb hz hn
      have HO := Lib.hid ho
      have HB := Lib.hid (hb _ (Below.refl B w))
      clear ho hb hn
      go_wp2_with fail
      go_ret
      exact ⟨_, rfl, HO.out, HB.out⟩
  · rcases hown.2 with ⟨hv, hn⟩ | ⟨g, cap, cur, rfl, hg, hc, hn, hcap, hsz, htk⟩
    · omega
    · have hsz3 : cur.size = cap * 3 := hsz
      have htk3 : cur.toList.take (l.length * 3) = flat encB l := htk
      have hne2 : gx ≠ g := fun e => hne (by rw [e]; rfl)
      have hcsW : ∀ W : World, W.heap[g]? = some (.cells cur 92 (0, 0)) → ∀ j u, (flat encB l)[j]? = some u → W.cell? ⟨g, j, none⟩ = some u := fun W hW j u hj => by
        have ho : OwnE encB 92 W B (.slice (some ⟨g, 0, none⟩) l.length cap) l := ⟨hown.1, .inr ⟨g, cap, cur, rfl, hg, hW, hn, hcap, hsz, htk⟩⟩
        have := World.ownsRow.cells ho rfl j u hj
        have hadd : (⟨g, 0, none⟩ : Addr).add j = ⟨g, j, none⟩ := by unfold Addr.add; split <;> simp_all
        rwa [hadd] at this
      have hcs := hcsW w hc
      have hfl := flat_length encB l
      have hov : ∀ q lb cb (W : World), RowAt W gx #[.string b.1, .string b.2.1, .bool b.2.2] 92 → W.heap[g]? = some (.cells cur 92 (0, 0)) → (callFunc 149 #[.slice (some ⟨gx, 0, none⟩) 1 1, .slice (some ⟨g, q, none⟩) lb cb]).run Try.prog W = .ok (.value (.bool false)) W := fun q lb cb W h1 h2 => by
        rw [run_callFunc_extern Try.func149 (by kernel_rfl) (by kernel_rfl) (by kernel_rfl) (e := Extern.SlicesOverlaps.overlaps #[43, 43] #[4]) (by kernel_rfl),
          Lib.run_overlaps_apart W 43 4 92 Try.underlying43 3 Try.sizeOf92 ⟨gx, 0, none⟩ ⟨g, q, none⟩ 1 1 lb cb hne2 92 92 3 (cap * 3) (by simp [World.shape?, show W.heap[gx]? = _ from h1]) (by simp [World.shape?, h2, hsz3]) (by omega) (h1.frozen 0) (h1.frozen 3)]
        rfl
      have hcap2 : cap ≤ 9223372036854775807 := by unfold maxLen at hcap; omega
      by_cases hroom : l.length + 1 ≤ cap
      · have hov2 := fun q lb cb => hov q lb cb w hx hc
        clear hov
        have hl3 : (l.length : Int) ≠ i := by omega
        have hlen : (l.take i ++ b :: l.drop i).length = l.length + 1 := by
          rw [List.length_append, List.length_cons, List.length_take, List.length_drop]; omega
        generalize hn' : l.length = n at *
        have hb1 : ¬ cap = i := by omega
        have hb2 : ¬ cap = i + 1 := by omega
        have hw1 : IntKind.i64.wrap ((i : Int) + 1) = (i : Int) + 1 := by rw [IntKind.wrap_i64]; omega
        have hb3 : (0 : Int) ≤ (i : Int) + 1 := by omega
        have htn : ((i : Int) + 1).toNat = i + 1 := by omega
        have hb4 : (i : Int) ≤ (n : Int) + 1 := by omega
        have hb5 : (i : Int) + 1 ≤ (n : Int) + 1 := by omega
        go_enter Try.func101, Try.ntmps101
        go_wp2_with (simp only [hov2])
        (refine region_tail 8 mix ?hB ?_; case hB => kernel_rfl); (simp only [List.take_succ_cons, List.take_zero, List.drop_succ_cons, List.drop_zero]; (iterate 8 (with_reducible refine wpStill_step ?_; intro K hK; go_simp; with_reducible refine hK _ ?_; clear hK K)); with_reducible refine wpStill_nil ?_)
        obtain ⟨i0, hi0, hz0, hz1, hz2⟩ := info_parts info_bal
        have hdl : (flat encB (l.drop i)).length = (n - i) * 3 := by rw [flat_length, List.length_drop, hn']; rfl
        have hdr : ∀ j u, (flat encB (l.drop i))[j]? = some u → w.drew.cell? ⟨g, i * 3 + j, none⟩ = some u := fun j u hj => by
          rw [← flat_drop, List.getElem?_drop] at hj
          exact hcs _ u hj
        refine wpList_copy_k rfl _ _ _ _ rfl _ _ rfl rfl _ _ (run_copy_k w.drew _ _ _ 92 i0 3 g _ _ _ _ _ _ cur 92 (flat encB (l.drop i)) Try.underlying43 hi0 hz1 hc ?_ ?_ ?_ (flat_one _ _)) ?_
        · rw [hdl, show Nat.min (n + 1 - i) (n - i) = n - i from Nat.min_eq_right (by omega)]
        · intro j v hj
          rw [Addr.add_lit]
          exact hdr j v hj
        · rw [hdl, hsz3]; omega
        have hclen : cur.toList.length = cap * 3 := by rw [Array.length_toList, hsz3]
        have HFin : Hid (∃ C2 : Array Value, C2 = (((cur.toList.take (i * 3 + (encB.cells b).length) ++ flat encB (l.drop i) ++ cur.toList.drop (i * 3 + (encB.cells b).length + (flat encB (l.drop i)).length)).take (i * 3) ++ encB.cells b ++ (cur.toList.take (i * 3 + (encB.cells b).length) ++ flat encB (l.drop i) ++ cur.toList.drop (i * 3 + (encB.cells b).length + (flat encB (l.drop i)).length)).drop (i * 3 + (encB.cells b).length))).toArray ∧ C2.size = cap * 3 ∧ C2.toList.take ((n + 1) * 3) = flat encB (l.take i ++ b :: l.drop i)) := Lib.hid (by
          refine ⟨_, rfl, ?_, ?_⟩
          · have := encB.len b
            simp only [List.size_toArray, List.length_append, List.length_take, List.length_drop, hclen, hdl, show (encB.cells b).length = 3 from rfl]
            omega
          · have hpt := put_take2 cur.toList (encB.cells b) (flat encB (l.drop i)) (i * 3) (by rw [hclen, hdl, show (encB.cells b).length = 3 from rfl]; omega)
            rw [show i * 3 + (encB.cells b).length + (flat encB (l.drop i)).length = (n + 1) * 3 by rw [hdl, show (encB.cells b).length = 3 from rfl]; omega] at hpt ⊢
            rw [hpt, flat_append, flat, ← flat_take, ← List.append_assoc]
            congr 2
            rw [← htk3, List.take_take, Nat.min_eq_left (by show i * 3 ≤ n * 3; omega)]
            rfl)
        obtain ⟨C2, hC2, hC2s, hC2t⟩ := HFin.out
        clear HFin
        rw [show (i + 1) * 3 = i * 3 + (encB.cells b).length from by rw [show (encB.cells b).length = 3 from rfl]; omega]
        generalize hC1 : (cur.toList.take (i * 3 + (encB.cells b).length) ++ flat encB (l.drop i) ++ cur.toList.drop (i * 3 + (encB.cells b).length + (flat encB (l.drop i)).length)) = C1 at *
        have hC1s : C1.length = cap * 3 := by
          rw [← hC1]
          simp only [List.length_append, List.length_take, List.length_drop, hclen, hdl, show (encB.cells b).length = 3 from rfl]
          omega
        have hr1 : (w.drew.setRow g C1.toArray).heap[g]? = some (.cells C1.toArray 92 (0, 0)) := setRow_heap w.drew g cur C1.toArray _ _ hc
        have hx1 : RowAt (w.drew.setRow g C1.toArray) gx #[.string b.1, .string b.2.1, .bool b.2.2] 92 := by
          unfold RowAt
          rw [setRow_other _ _ _ _ hne2]
          exact hx
        have hB1 : Below B w (w.drew.setRow g C1.toArray) := (Below.refl B w).drew.trans (below_setRow _ _ _ _ hg)
        generalize w.drew.setRow g C1.toArray = W1 at *
        clear hov2 hx hsrc hc hC1 hcs hcsW hdr htk htk3 hfl hown
        have hm1 : Nat.min 1 (n + 1 - i) = 1 := Nat.min_eq_left (by omega)
        have hcp2 := run_copy_k W1 43 43 3 92 i0 3 g (i * 3) (n + 1 - i) (cap - i) ⟨gx, 0, none⟩ 1 1 C1.toArray 92 (encB.cells b) Try.underlying43 hi0 hz1 hr1 (by rw [hm1]; rfl)
          (fun j u hj => by rw [Addr.add_lit, Nat.zero_add, hx1.cell j]; simpa [encB] using hj) (by rw [List.size_toArray, hC1s, show (encB.cells b).length = 3 from rfl]; omega) (encB.one b)
        rw [hm1] at hcp2
        go_wp2_with (simp only [hcp2])
        go_ret
        rw [List.append_assoc] at hC2
        rw [← hC2]
        refine ⟨_, rfl, ⟨?_, .inr ⟨g, cap, C2, ?_, hg, setRow_heap W1 g _ C2 _ _ hr1, ?_, hcap, hC2s, ?_⟩⟩, hB1.trans (below_setRow _ _ _ _ hg)⟩
        · rw [flat_length, hlen]
        · rw [hlen]; rfl
        · rw [hlen]; exact hroom
        · rw [hlen]; exact hC2t
      · have hlen : (l.take i ++ b :: l.drop i).length = l.length + 1 := by
          rw [List.length_append, List.length_cons, List.length_take, List.length_drop]; omega
        have hl3 : (l.length : Int) ≠ i := by omega
        generalize hn' : l.length = n at *
        have hcn : cap = n := by omega
        subst hcn
        clear hov hroom hn
        have hw0 : IntKind.i64.wrap ((cap : Int) + 1) = (cap : Int) + 1 := by rw [IntKind.wrap_i64]; omega
        have hw1 : IntKind.i64.wrap ((i : Int) + 1) = (i : Int) + 1 := by rw [IntKind.wrap_i64]; omega
        have hw2 : IntKind.i64.wrap ((cap : Int) + 1 - (i : Int)) = (cap : Int) + 1 - (i : Int) := by rw [IntKind.wrap_i64]; omega
        have hb3 : (0 : Int) ≤ (i : Int) + 1 := by omega
        have htn : ((i : Int) + 1).toNat = i + 1 := by omega
        have hb1 : ¬ cap = i := by omega
        obtain ⟨i0, hi0, hz0, hz1, hz2⟩ := info_parts info_bal
        have hgr := run_append_grow_zeros w 43 3 43 92 i0 _ .i64 .i64 Try.underlying43 Try.underlying3 hi0 hz0 ⟨g, 0, none⟩ i cap (flat encB (l.take i))
          (by rw [flat_length, List.length_take, hn', hz1, Nat.min_eq_left hi]; rfl) (fun j u hj => by
            rw [Addr.add_lit, Nat.zero_add]
            refine hcs j u ?_
            rw [← flat_take, List.getElem?_take] at hj
            split at hj
            · exact hj
            · cases hj) (cap + 1 - i) (by omega) (by omega) (by omega) (by omega) (by omega)
        rw [show i + (cap + 1 - i) = cap + 1 by omega, show ((cap + 1 - i : Nat) : Int) = (cap : Int) + 1 - (i : Int) by omega] at hgr
        have hG1 := grownCap_ge w (cap + 1) cap 92
        have hG2 := grownCap_le_maxLen w (cap + 1) cap 92 (by unfold maxLen; omega)
        generalize grownCap w (cap + 1) cap 92 = G at *
        have hG3 : (G : Int) ≤ 9223372036854775807 := by unfold maxLen at hG2; omega
        generalize hC0 : ((flat encB (l.take i)).toArray ++ Builtin.zeroCells (Value.agg #[Value.string ⟨#[]⟩, Value.string ⟨#[]⟩, Value.bool false]).cells (cap + 1 - i) ++ Builtin.zeroCells (Value.agg #[Value.string ⟨#[]⟩, Value.string ⟨#[]⟩, Value.bool false]).cells (G - (cap + 1))) = C0 at *
        have hC0s : C0.size = G * 3 := by
          rw [← hC0]
          simp only [Array.size_append, List.size_toArray, flat_length, size_zeroCells, List.length_take, hn', Nat.min_eq_left hi]
          show i * 3 + (cap + 1 - i) * 3 + (G - (cap + 1)) * 3 = G * 3
          omega
        have hC0t : C0.toList.take (i * 3) = flat encB (l.take i) := by
          rw [← hC0]
          simp only [Array.toList_append]
          rw [List.append_assoc]
          refine List.take_left' ?_
          rw [flat_length, List.length_take, hn', Nat.min_eq_left hi]; rfl
        go_enter Try.func101, Try.ntmps101
        go_wp2_with (at_builtin; refine Lib.wpList_append_run w rfl _ _ _ _ rfl _ _ rfl rfl _ _ hgr ?_)
        have hglt : g < w.heap.size := (Array.getElem?_eq_some_iff.mp hc).1
        have hxlt : gx < w.heap.size := (Array.getElem?_eq_some_iff.mp hx).1
        have hB1 : Below w.heap.size w (w.alloc (.cells C0 92)).drew := ((Below.refl _ w).alloc (Nat.le_refl _) _).drew
        have hr1 : (w.alloc (.cells C0 92)).drew.heap[w.heap.size]? = some (.cells C0 92 (0, 0)) := heap_alloc_new w _
        have hc1 : (w.alloc (.cells C0 92)).drew.heap[g]? = some (.cells cur 92 (0, 0)) := by rw [hB1.block g hglt]; exact hc
        have hx1 : RowAt (w.alloc (.cells C0 92)).drew gx #[.string b.1, .string b.2.1, .bool b.2.2] 92 := by unfold RowAt; rw [hB1.block gx hxlt]; exact hx
        have hB1' : Below B w (w.alloc (.cells C0 92)).drew := hB1.mono hB
        generalize (w.alloc (.cells C0 92)).drew = W1 at *
        generalize hg2 : w.heap.size = g2 at *
        have hgg : g ≠ g2 := by omega
        have hxg : gx ≠ g2 := by omega
        have hdl : (flat encB (l.drop i)).length = (cap - i) * 3 := by rw [flat_length, List.length_drop, hn']; rfl
        have hclen : C0.toList.length = G * 3 := by rw [Array.length_toList, hC0s]
        have hb3 : (encB.cells b).length = 3 := rfl
        have HFin : Hid (∃ C2 : Array Value, C2 = ((C0.toList.take (i * 3) ++ encB.cells b ++ C0.toList.drop (i * 3 + (encB.cells b).length)).take ((i + 1) * 3) ++ flat encB (l.drop i) ++ (C0.toList.take (i * 3) ++ encB.cells b ++ C0.toList.drop (i * 3 + (encB.cells b).length)).drop ((i + 1) * 3 + (flat encB (l.drop i)).length)).toArray ∧ C2.size = G * 3 ∧ C2.toList.take ((cap + 1) * 3) = flat encB (l.take i ++ b :: l.drop i)) := Lib.hid (by
          refine ⟨_, rfl, ?_, ?_⟩
          · simp only [List.size_toArray, List.length_append, List.length_take, List.length_drop, hclen, hdl, hb3]
            omega
          · have hpt := put_take C0.toList (encB.cells b) (flat encB (l.drop i)) (i * 3) (by rw [hclen, hdl, hb3]; omega)
            rw [show i * 3 + (encB.cells b).length + (flat encB (l.drop i)).length = (cap + 1) * 3 by rw [hdl, hb3]; omega, show i * 3 + (encB.cells b).length = (i + 1) * 3 by rw [hb3]; omega] at hpt
            rw [show (i + 1) * 3 + (flat encB (l.drop i)).length = (cap + 1) * 3 by rw [hdl]; omega, show i * 3 + (encB.cells b).length = (i + 1) * 3 by rw [hb3]; omega, hpt, flat_append, flat, hC0t, List.append_assoc])
        obtain ⟨C2, hC2, hC2s, hC2t⟩ := HFin.out
        clear HFin
        generalize hC1 : (C0.toList.take (i * 3) ++ encB.cells b ++ C0.toList.drop (i * 3 + (encB.cells b).length)) = C1 at *
        have hC1s : C1.length = G * 3 := by
          rw [← hC1]
          simp only [List.length_append, List.length_take, List.length_drop, hclen, hb3]
          omega
        have hm1 : Nat.min 1 (cap + 1 - i) = 1 := Nat.min_eq_left (by omega)
        have hcp1 := run_copy_k W1 43 43 3 92 i0 3 g2 (i * 3) (cap + 1 - i) (G - i) ⟨gx, 0, none⟩ 1 1 C0 92 (encB.cells b) Try.underlying43 hi0 hz1 hr1 (by rw [hm1]; rfl)
          (fun j u hj => by rw [Addr.add_lit, Nat.zero_add, hx1.cell j]; simpa [encB] using hj) (by rw [hC0s, hb3]; omega) (encB.one b)
        rw [hm1] at hcp1
        have hcp1' := hcp1
        rw [hC1] at hcp1'
        go_wp2_with (simp only [hcp1'])
        have hr2 : (W1.setRow g2 C1.toArray).heap[g2]? = some (.cells C1.toArray 92 (0, 0)) := setRow_heap W1 g2 C0 C1.toArray _ _ hr1
        have hc2 : (W1.setRow g2 C1.toArray).heap[g]? = some (.cells cur 92 (0, 0)) := by rw [setRow_other _ _ _ _ hgg]; exact hc1
        have hB2 : Below B w (W1.setRow g2 C1.toArray) := hB1'.trans (below_setRow _ _ _ _ hB)
        generalize W1.setRow g2 C1.toArray = W2 at *
        clear hx hsrc hc hC1 hcs hfl hown hcp1 hcp1' hc1 hr1 hx1 hgr
        have hcs2 := hcsW W2.drew hc2
        have hm2 : Nat.min (cap - i) (cap - i) = cap - i := Nat.min_self _
        have hcp2 := run_copy_k W2.drew 43 43 3 92 i0 3 g2 ((i + 1) * 3) (cap - i) (G - (i + 1)) ⟨g, i * 3, none⟩ (cap - i) (cap - i) C1.toArray 92 (flat encB (l.drop i)) Try.underlying43 hi0 hz1 hr2 (by rw [hm2, hdl])
          (fun j u hj => by
            rw [Addr.add_lit]
            rw [← flat_drop, List.getElem?_drop] at hj
            exact hcs2 _ u hj) (by rw [List.size_toArray, hC1s, hdl]; omega) (flat_one _ _)
        rw [hm2, ← hC2] at hcp2
        clear hC2
        have hG4 : ¬ G = i + 1 := by omega
        (refine region_tail 8 mix ?hB ?_; case hB => kernel_rfl); (simp only [List.take_succ_cons, List.take_zero, List.drop_succ_cons, List.drop_zero]; (iterate 8 (with_reducible refine wpStill_step ?_; intro K hK; go_simp; with_reducible refine hK _ ?_; clear hK K)); with_reducible refine wpStill_nil ?_)
        refine wpList_copy_k rfl _ _ _ _ rfl _ _ rfl rfl _ _ hcp2 ?_
        go_wp2_with fail
        go_ret
        refine ⟨_, rfl, ⟨?_, .inr ⟨g2, G, C2, ?_, hB, setRow_heap W2.drew g2 _ C2 _ _ hr2, ?_, hG2, hC2s, ?_⟩⟩, hB2.drew.trans (below_setRow _ _ _ _ hB)⟩
        · rw [flat_length, hlen]
        · rw [hlen]; rfl
        · rw [hlen]; exact hG1
        · rw [hlen]; exact hC2t
end Go.Proofs.Ythipnbiilobjeaa

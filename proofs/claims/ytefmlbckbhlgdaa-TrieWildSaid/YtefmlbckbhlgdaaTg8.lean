/- The trie: a fresh node; a node laid in the arena; keys cut; what begins alike handed on. The trie: keys cut; parts of keys. The trie: a node laid in the arena. The trie: the arena's state; what one group of pairs does to it. The trie: what begins alike is handed on. The trie: each, walked. -/
import Derived.Shelf.Abstract
import Derived.Test.YtefmlbckbhlgdaaTg6
import Derived.Test.YtefmlbckbhlgdaaTg7
namespace Go.Proofs.Ytefmlbckbhlgdaa
open Go.RowKit Go.Shelf
set_option maxRecDepth 100000
set_option maxHeartbeats 4000000 in
theorem fresh_any (kd : Int) (w : World) : Calls Try.prog 126 #[.int .i64 kd] w fun e w' => e = .returned (.agg (ndc (frN kd))) ∧ Below w.heap.size w w' := by
  go_enter Try.func126, Try.ntmps126
  go_upto_region 3 with (refine wpList_store_nd rfl _ _ rfl (w.heap.size + 1) (frK kd 0) rfl rfl _ (RowAt.new' _ _ _ (by simp)) rfl ?_)
  intro W hr hb ho hs
  have R1 := Lib.hid hr
  have HB := Lib.hid (hb w.heap.size w (((Below.refl _ _).alloc (Nat.le_refl _) _).alloc (by simp) _) (Nat.le_succ _))
  obtain ⟨z0, R0⟩ : ∃ z0 : Array Value, Hid (RowAt W w.heap.size z0 88 ∧ z0.size = 19) := ⟨_, Lib.hid ⟨(ho w.heap.size (by omega)).trans ((RowAt.new w _ 88).alloc _), rfl⟩⟩
  clear hr hb ho hs
  go_upto_region 3 with (fail)
  go_loopw [7] (fun s wr => ∃ i : Nat, i ≤ 16 ∧ s = .int .i64 i ∧ Hid (RowAt wr (w.heap.size + 1) (ndc (frK kd i)) 88) ∧ Hid (RowAt wr w.heap.size z0 88 ∧ z0.size = 19) ∧ Hid (Below w.heap.size w wr)) (fun s _ => 16 - (intOf s).toNat)
  case atStart => exact ⟨0, Nat.zero_le _, rfl, R1, R0, HB⟩
  case round =>
    clear R1 R0 HB
    obtain ⟨i, hi, rfl, r1, r0, hb⟩ := hrel
    have R1 := Lib.hid r1.out
    have R0 := Lib.hid r0.out
    have HB := Lib.hid hb.out
    clear r1 r0 hb
    by_cases hlt : i < 16
    · obtain ⟨c3, f3⟩ := R1.out.ndK i hlt
      have R1' := Lib.hid (R1.out.set (3 + i) (.int .i64 (-1)) (frK_set kd i hlt))
      have R0' := Lib.hid (show RowAt (wr.setCell ⟨w.heap.size + 1, 3 + i, none⟩ (.int .i64 (-1))) w.heap.size z0 88 ∧ z0.size = 19 from ⟨R0.out.1.other ⟨w.heap.size + 1, 3 + i, none⟩ (.int .i64 (-1)) (by simp), R0.out.2⟩)
      have HB' := Lib.hid (HB.out.setCell (p := ⟨w.heap.size + 1, 3 + i, none⟩) (Nat.le_succ _) (.int .i64 (-1)))
      clear R1 R0 HB
      go_wp2
      exact ⟨⟨i + 1, by omega, by simp, R1', R0', HB'⟩, by simp [intOf]; omega⟩
    · obtain rfl : i = 16 := by omega
      go_wp2_with (first
        | (refine wpList_load_nd rfl _ rfl _ (frN kd) rfl (NdAt.ofRow (show RowAt wr (w.heap.size + 1) (ndc (frN kd)) 88 from R1.out)) ?_)
        | (refine wpList_store_nd rfl _ _ rfl w.heap.size (frN kd) rfl rfl z0 R0.out.1 R0.out.2 ?_))
      intro W2 hr2 hb2 ho2 hs2
      have R2 := Lib.hid hr2
      have HB2 := Lib.hid (hb2 w.heap.size w HB.out (Nat.le_refl _))
      clear hr2 hb2 ho2 hs2
      go_wp2
      refine bodyPost_ret (v := .agg (ndc (frN kd))) ?_ rfl ⟨rfl, HB2.out⟩
      exact results_cell_row Try.results126 _ _ w.heap.size 88 (ndc (frN kd)) (0, 0) _ rfl R2.out Try.underlying88 rfl (size_nd _)
end Go.Proofs.Ytefmlbckbhlgdaa
namespace Go.Proofs.Ytefmlbckbhlgdaa
open Go.RowKit Go.Shelf
set_option maxRecDepth 100000
/-- A row of which some are laid. -/
def fillP (L : List Pr) (i : Nat) : List Pr := L.take i ++ List.replicate (L.length - i) ([], [])
theorem fillP_at (L : List Pr) (i : Nat) (h : i < L.length) : (fillP L i)[i]? = some ([], []) := by
  unfold fillP
  rw [List.getElem?_append_right (by simp; omega), List.getElem?_replicate, if_pos (by simp; omega)]
theorem fillP_set (L : List Pr) (i : Nat) (y : Pr) (hy : L[i]? = some y) : (fillP L i).set i y = fillP L (i + 1) := by
  obtain ⟨h, e⟩ := List.getElem?_eq_some_iff.1 hy
  have hl : (L.take i).length = i := by simp; omega
  unfold fillP
  rw [List.set_append_right _ _ (by omega), hl, Nat.sub_self, show L.length - i = (L.length - (i + 1)) + 1 by omega, List.replicate_succ, List.set_cons_zero, List.take_add_one, hy, List.append_assoc]
  rfl
theorem fillP_all (L : List Pr) : fillP L L.length = L := by unfold fillP; simp
theorem flat_made (n : Nat) : (madeCells #[.string ⟨#[]⟩, .string ⟨#[]⟩] (n * 2)).toList = flat encP (List.replicate n ([], [])) := by
  apply List.ext_getElem?
  intro q
  have hf : (flat encP (List.replicate n (([], []) : Pr))).length = n * 2 := by rw [flat_length, List.length_replicate]; rfl
  by_cases hq : q < n * 2
  · have hd : q / 2 < n := by omega
    have hg : (List.replicate n (([], []) : Pr))[q / 2]? = some ([], []) := by rw [List.getElem?_replicate, if_pos hd]
    have h1 := flat_get encP hg (q % 2) (by show q % 2 < 2; omega)
    rw [show q / 2 * encP.k + q % 2 = q by show q / 2 * 2 + q % 2 = q; omega] at h1
    rw [h1]
    have h2 : q % 2 = 0 ∨ q % 2 = 1 := by omega
    unfold madeCells
    rcases h2 with h2 | h2 <;> simp [h2, hq, encP, mkS]
  · rw [List.getElem?_eq_none (l := flat encP _) (by rw [hf]; omega), List.getElem?_eq_none (by rw [Array.length_toList, size_madeCells]; omega)]
theorem OP.shape {w : World} {base : Nat} {v : Value} {l : List Pr} (h : OP w base v l) : ∃ (p : Option Addr) (c : Nat), v = .slice p l.length c ∧ l.length ≤ c ∧ c ≤ maxLen := RowE.shape encP (OwnE.row encP h)

set_option maxHeartbeats 4000000 in
theorem less_any (l : List Pr) (k : Nat) (v : Value) (w : World) (h : RP w v l) (hl : l.length ≤ 100000) (hk : ∀ p ∈ l, k ≤ p.1.length) (_hk2 : k ≤ 100000) :
    Calls Try.prog 129 #[v, .int .i64 k] w fun e w' => ∃ v', e = .returned v' ∧ RP w' v' (cutK k l) ∧ (∀ g, v'.ownBlock = some g → w.heap.size ≤ g) ∧ Below w.heap.size w w' := by
  obtain ⟨i0, hi, hz0, hz1, hz2⟩ := info_parts info_pr
  obtain ⟨pv, cv, rfl, z1, z2⟩ := RowE.shape encP h
  have HR := Lib.hid h
  unfold maxLen at z2
  have HC := Lib.hid (fun (i : Nat) (x : Pr) (hx : l[i]? = some x) => show (cutK k l)[i]? = some (x.1.drop k, x.2) by unfold cutK; rw [List.getElem?_map, hx]; rfl)
  have HKE := Lib.hid (fun (i : Nat) (x : Pr) (hx : l[i]? = some x) => hk x (List.mem_of_getElem? hx))
  have hcl : (cutK k l).length = l.length := List.length_map _
  generalize cutK k l = L at *
  generalize hn : l.length = n at *
  replace hn := Lib.hid hn
  replace hcl := Lib.hid hcl
  clear h hk
  go_enter Try.func129, Try.ntmps129
  go_upto_region 2 with (at_make; (refine wpList_make_full _ rfl _ _ 34 rfl w.heap.size 41 i0 _ 2 Try.underlying34 hi hz0 hz1 .i64 .i64 _ _ n rfl rfl rfl rfl (by rw [hz2]; omega) (by unfold maxLen; omega) (Nat.le_refl _) ?_); intro w1 hown hg)
  have O0 := Lib.hid (show OP w1 w.heap.size (.slice (some ⟨w.heap.size, 0, none⟩) n n) (fillP L 0) by
    have e : fillP L 0 = List.replicate n ([], []) := by unfold fillP; rw [List.take_zero, Nat.sub_zero, hcl.out]; rfl
    unfold OP OwnE
    rw [e, ← flat_made, List.length_replicate]
    exact hown)
  have HB0 := Lib.hid ((Below.refl w.heap.size w).grown hg (Nat.le_refl _) (fun k hk => by cases hk))
  clear hown hg hz0 hz1 hz2 hi i0
  go_upto_region 3 with (fail)
  go_loopw [13] (fun s wr => ∃ i : Nat, i ≤ n ∧ s = .int .i64 i ∧ Hid (OP wr w.heap.size (.slice (some ⟨w.heap.size, 0, none⟩) n n) (fillP L i)) ∧ Hid (Below w.heap.size w wr)) (fun s _ => n - (intOf s).toNat)
  case atStart => exact ⟨0, Nat.zero_le _, rfl, O0, HB0⟩
  case round =>
    clear O0 HB0
    obtain ⟨i, hi, rfl, ho, hb⟩ := hrel
    have O := Lib.hid ho.out
    have HB := Lib.hid hb.out
    clear ho hb
    by_cases hlt : i < n
    · obtain ⟨x, hx⟩ : ∃ x, l[i]? = some x := ⟨_, List.getElem?_eq_getElem (by rw [hn.out]; exact hlt)⟩
      obtain ⟨a, rfl, c0, c1⟩ := RP.at (RP.below HR.out HB.out (Nat.le_refl _)) hx
      have hcx := Lib.hid (HC.out i x hx)
      have hkx := HKE.out i x hx
      obtain ⟨xk, xv⟩ := x
      simp only at c0 c1 hkx
      have hsz : (mkS xk).size = xk.length := mk_size _
      have hdr := mkS_drop xk k
      rw [hsz] at hdr
      have HA := prAlloc wr (xk, xv)
      have O1 := Lib.hid (O.out.below HA (Nat.le_refl _))
      have HB1 := Lib.hid (HB.out.trans (HA.mono HB.out.size))
      have R1 := Lib.hid (RowAt.new wr #[.string (mkS xk), .string (mkS xv)] 41)
      clear HA hx O HB
      go_upto_region 5 with (fail)
      clear c0 c1
      generalize wr.alloc (.cells #[.string (mkS xk), .string (mkS xv)] 41) = w1 at *
      generalize wr.heap.size = k1 at *
      obtain ⟨y0, y1, yf0, yf1⟩ := R1.out.c2
      obtain ⟨g, eg, -, -, hcell, hfr, hset⟩ := OwnE.at (E := encP) O1.out (fillP_at L i (by rw [hcl.out]; exact hlt))
      obtain rfl : w.heap.size = g := by injection eg with eg; injection eg
      have m0 : w1.cell? ⟨w.heap.size, i * 2, none⟩ = some (.string (mkS [])) := hcell 0 _ rfl
      have m1 : w1.cell? ⟨w.heap.size, i * 2 + 1, none⟩ = some (.string (mkS [])) := hcell 1 _ rfl
      have f0 := hfr (i * 2)
      have f1 := hfr (i * 2 + 1)
      have O2 := Lib.hid (show OP ((w1.drew.setCell ⟨w.heap.size, i * 2, none⟩ (.string (mkS (xk.drop k)))).setCell ⟨w.heap.size, i * 2 + 1, none⟩ (.string (mkS xv))) w.heap.size (.slice (some ⟨w.heap.size, 0, none⟩) n n) (fillP L (i + 1)) by
        rw [← fillP_set L i _ hcx.out]
        exact hset (xk.drop k, xv) w1.drew (fun C h => h.drew))
      have HB2 := Lib.hid ((HB1.out.drew.setCell (p := ⟨w.heap.size, i * 2, none⟩) (Nat.le_refl _) (.string (mkS (xk.drop k)))).setCell (p := ⟨w.heap.size, i * 2 + 1, none⟩) (Nat.le_refl _) (.string (mkS xv)))
      clear hcell hfr hset eg O1 HB1 R1
      (refine region_tail 10 mix ?hB ?_; case hB => kernel_rfl); (simp only [List.take_succ_cons, List.take_zero, List.drop_succ_cons, List.drop_zero]; (iterate 10 (with_reducible refine wpStill_step ?_; intro K hK; go_simp; with_reducible refine hK _ ?_; clear hK K)); with_reducible refine wpStill_nil ?_)
      go_wp2
      exact ⟨⟨i + 1, by omega, by simp, O2, HB2⟩, by simp [intOf]; omega⟩
    · obtain rfl : i = n := by omega
      have O2 := Lib.hid (OwnE.row encP O.out)
      have ef : fillP L i = L := by rw [← hcl.out]; exact fillP_all L
      rw [ef] at O2
      go_wp2
      go_ret
      exact ⟨_, rfl, O2.out, fun g hg => by simp [Value.ownBlock] at hg; omega, HB.out⟩
end Go.Proofs.Ytefmlbckbhlgdaa
namespace Go.Proofs.Ytefmlbckbhlgdaa
open Go.RowKit Go.Shelf
set_option maxRecDepth 100000
section
variable {ops : Array Oper} {C : World → Prop}
theorem xe_one_nd {Q : Act → World → Prop} {a : Act} {w : World} {k : Nat} {es : List Nat} (o : Oper) (hk : ops[k]? = some o) (hgd : o.guard = none) (x : Operand) (ho : o.op = .buildSlice 35 1 #[(0, x)]) (n : Nd) (hx : a.eval x = .agg (ndc n))
    (hC : C (w.alloc (.cells (ndc n) 88))) (h : wpXE Try.prog ops C Q es (a.put o.dst (.slice (some ⟨w.heap.size, 0, none⟩) 1 1)) (w.alloc (.cells (ndc n) 88))) : wpXE Try.prog ops C Q (k :: es) a w := by
  refine xe_step ⟨o, hk, fun K hK => ?_⟩
  unfold Region.wanted
  rw [hgd]
  simp only [if_true]
  have e : (#[(0, x)].map fun (i, x) => (i, a.eval x)) = #[(0, .agg (ndc n))] := by simp [hx]
  unfold EX execOp
  simp only [ho, e, Sem.run_bind, run_one_nd w n, Result.andThen_ok]
  exact ⟨hC, hK _ _ h⟩
theorem xe_append_nd {Q : Act → World → Prop} {a : Act} {w : World} {k : Nat} {es : List Nat} (o : Oper) (hk : ops[k]? = some o) (hgd : o.guard = none) (s x : Operand)
    (ho : o.op = .call { callee := .builtin .append, args := #[s, x], argTypes := #[35, 35] }) (base : Nat) (v : Value) (l : List Nd) (hs : a.eval s = v) (hown : ON w base v l)
    (ad : Addr) (y : Nd) (hx : a.eval x = .slice (some ad) 1 1) (hc : NdAt w ad y) (hb : l.length ≤ 600000) (hbase : base ≤ w.heap.size)
    (h : ∀ v' w', ON w' base v' (l ++ [y]) → w.grownBy w' v.ownBlock → (∀ g, v'.ownBlock = some g → v.ownBlock = some g ∨ w.heap.size ≤ g) → C w' ∧ wpXE Try.prog ops C Q es (a.put o.dst v') w') : wpXE Try.prog ops C Q (k :: es) a w := by
  obtain ⟨v', w', hr, h1, h2, h3⟩ := run_append_oneE encN Try.underlying35 info_nd rfl w o.type base v l hown ad y (fun j u hj => hc j u (by simpa [encN] using hj)) (by unfold maxLen; omega) (by omega) hbase
  obtain ⟨hC, hn⟩ := h v' w' h1 h2 h3
  refine xe_step ⟨o, hk, fun K hK => ?_⟩
  unfold Region.wanted
  rw [hgd]
  simp only [if_true]
  unfold EX execOp
  simp only [ho, resolve, invoke, builtin, Sem.run_bind, Sem.run_pure, Result.andThen_ok, List.map_toArray, List.map_cons, List.map_nil, hs, hx, hr]
  exact ⟨hC, hK _ _ hn⟩
end
/-- The worlds in which all blocks but a row's own are as they were. -/
def GrC (r : Option Nat) (W w' : World) : Prop := W.grownBy w' r
theorem RowAt.gr {W : World} {r : Option Nat} {k : Nat} {cs : Array Value} {T : TypeId} (h : RowAt W k cs T) (hne : r ≠ some k) (u : InC (GrC r W)) : RowAt u.w k cs T := h.grown u.is (fun e => hne e.symm)
theorem grownBy_transT {a b c : World} {r : Option Nat} (h : a.grownBy b r) (k : b.grownBy c r) : a.grownBy c r :=
  ⟨k.os.trans h.os, k.tape.trans h.tape, k.output.trans h.output, Nat.le_trans h.size k.size, fun i hi h2 => (k.block i (by have := h.size; omega) h2).trans (h.block i hi h2)⟩
theorem grownBy_allocT (w : World) (o : Obj) (r : Option Nat) : w.grownBy (w.alloc o) r :=
  ⟨rfl, rfl, rfl, by simp, fun i hi _ => Below.heap_alloc w o i hi⟩

set_option maxHeartbeats 4000000 in
theorem alay_any (nd : Nd) (ns : List Nd) (ka : Nat) (sv : Value) (w : World) (hr : RowAt w ka #[sv] 132) (ho : ON w (ka + 1) sv ns) (hl : ns.length ≤ 600000) :
    Calls Try.prog 127 #[.pointer (some ⟨ka, 0, none⟩), .agg (ndc nd)] w fun e w' => ∃ sv', e = .returned (.int .i64 ns.length) ∧ RowAt w' ka #[sv'] 132 ∧ ON w' (ka + 1) sv' (ns ++ [nd]) ∧ AK ka sv.ownBlock w w' ∧ ∀ g, sv'.ownBlock = some g → sv.ownBlock = some g ∨ w.heap.size ≤ g := by
  obtain ⟨p, c, rfl, z1, z2⟩ := RowE.shape encN (OwnE.row encN ho)
  unfold maxLen at z2
  have hown : ∀ g, (Value.slice p ns.length c).ownBlock = some g → ka + 1 ≤ g ∧ g < w.heap.size := fun g hg => World.ownsRow.lt ho g hg
  have R1 := Lib.hid (hr.alloc (.cells (ndc nd) 88)).drew
  have RN1 := Lib.hid (RowAt.new w (ndc nd) 88).drew
  have O1 := Lib.hid (ho.below (((Below.refl w.heap.size w).alloc (Nat.le_refl _) (.cells (ndc nd) 88)).drew) (Nat.le_refl _))
  have N1 := Lib.hid (show ka + 1 ≤ w.heap.size from hr.lt)
  have HO := Lib.hid hown
  have AK1 := Lib.hid (AK.ofBelow (ka := ka) (r := (Value.slice p ns.length c).ownBlock) (((Below.refl w.heap.size w).alloc (Nat.le_refl _) (.cells (ndc nd) 88)).drew))
  have HZ := Lib.hid (show (w.alloc (.cells (ndc nd) 88)).heap.size = w.heap.size + 1 by simp)
  clear hr ho hown
  go_enter Try.func127, Try.ntmps127
  go_upto_region 1 with (fail)
  generalize w.alloc (.cells (ndc nd) 88) = w1 at *
  have r1 : ∀ u : InC (GrC (Value.slice p ns.length c).ownBlock w1.drew), u.w.cell? ⟨ka, 0, none⟩ = some (.slice p ns.length c) := fun u => (R1.out.gr (fun e => by have := (HO.out ka e).1; omega) u).cell 0
  have rn := Lib.hid (fun u : InC (GrC (Value.slice p ns.length c).ownBlock w1.drew) => NdAt.ofRow (RN1.out.gr (fun e => by have := (HO.out _ e).2; omega) u))
  haveI : Nonempty (InC (GrC (Value.slice p ns.length c).ownBlock w1.drew)) := ⟨⟨w1.drew, World.grownBy.refl _ _⟩⟩
  (refine region_order [0, 1, 2, 3, 4, 5] [6, 7] 8 (GrC (Value.slice p ns.length c).ownBlock w1.drew) mix ?hB ?hC ?_; case hB => kernel_rfl); (case hC => exact World.grownBy.refl _ _)
  iterate 5 ((with_reducible refine xr_step ?_); (refine ⟨_, rfl, ?_⟩); intro K hK; go_simp; (with_reducible refine hK _ ?_); clear hK K)
  refine xr_load_nd _ rfl rfl _ rfl _ nd rfl rn.out ?_
  with_reducible refine xr_nil ?_
  refine xe_one_nd _ rfl rfl _ rfl nd rfl (grownBy_allocT w1.drew _ _) ?_
  have R2 := Lib.hid (R1.out.alloc (.cells (ndc nd) 88))
  have O2 := Lib.hid (O1.out.below ((Below.refl w1.drew.heap.size w1.drew).alloc (Nat.le_refl _) (.cells (ndc nd) 88)) (Nat.le_refl _))
  have RN2 := Lib.hid (RowAt.new w1.drew (ndc nd) 88)
  have AK2 := Lib.hid (AK1.out.trans (AK.ofBelow (ka := ka) (r := (Value.slice p ns.length c).ownBlock) ((Below.refl w1.drew.heap.size w1.drew).alloc (Nat.le_refl _) (.cells (ndc nd) 88))) (fun g e => .inl e))
  have HZ2 := Lib.hid (show w.heap.size ≤ (w1.drew.alloc (.cells (ndc nd) 88)).heap.size from AK2.out.size)
  clear R1 O1 RN1 AK1 HZ r1 rn
  refine xe_append_nd _ rfl rfl _ _ rfl (ka + 1) (.slice p ns.length c) ns rfl O2.out _ nd rfl (NdAt.ofRow RN2.out) hl (Nat.le_trans N1.out HZ2.out) ?_
  intro v' w3 ho3 hg3 hn3
  refine ⟨grownBy_transT (grownBy_allocT w1.drew _ _) hg3, ?_⟩
  with_reducible refine xe_nil ?_
  simp only [List.drop_succ_cons, List.drop_zero]
  have R3 := Lib.hid (R2.out.grown hg3 (fun e => by have := (HO.out ka e.symm).1; omega))
  have AK3 := Lib.hid (AK2.out.trans (AK.ofGrown (ka := ka) hg3) (fun g e => .inl e))
  have HN := Lib.hid (show ∀ g, v'.ownBlock = some g → (Value.slice p ns.length c).ownBlock = some g ∨ w.heap.size ≤ g from fun g e => (hn3 g e).imp id (fun h => Nat.le_trans HZ2.out h))
  have O3 := Lib.hid (show ON w3 (ka + 1) v' (ns ++ [nd]) from ho3)
  have HO3 := Lib.hid (fun g (hg : v'.ownBlock = some g) => World.ownsRow.lt ho3 g hg)
  clear ho3 hg3 hn3 R2 AK2 O2 RN2 HZ2
  obtain ⟨p', c', rfl, z3, z4⟩ := RowE.shape encN (OwnE.row encN O3.out)
  simp only [List.length_append, List.length_singleton] at *
  have HR4 := Lib.hid (R3.out.set 0 (.slice p' (ns.length + 1) c') (cs' := #[.slice p' (ns.length + 1) c']) rfl)
  have AK4 := Lib.hid (AK3.out.same (AK.set 0 (.slice p' (ns.length + 1) c')))
  have O4 := Lib.hid (show ON (w3.setCell ⟨ka, 0, none⟩ (.slice p' (ns.length + 1) c')) (ka + 1) (.slice p' (ns.length + 1) c') (ns ++ [nd]) from ownsRow_setCell_below O3.out (by simp) _)
  have q0 : w3.cell? ⟨ka, 0, none⟩ = some (.slice p ns.length c) := R3.out.cell 0
  have q1 := R3.out.frozen 0
  clear R3 AK3 O3
  go_upto_region 2 with (fail)
  generalize w3.setCell ⟨ka, 0, none⟩ (.slice p' (ns.length + 1) c') = w4 at *
  have q2 : w4.cell? ⟨ka, 0, none⟩ = some (.slice p' (ns.length + 1) c') := HR4.out.cell 0
  unfold maxLen at z4
  go_wp2
  go_ret
  exact ⟨_, by first | rfl | simp, HR4.out, O4.out, AK4.out, HN.out⟩
end Go.Proofs.Ytefmlbckbhlgdaa
namespace Go.Proofs.Ytefmlbckbhlgdaa
open Go.RowKit Go.Shelf
set_option maxRecDepth 100000
/-- All blocks but two and a row's own stay as they are. -/
structure AN (ka kn : Nat) (r : Option Nat) (w w' : World) : Prop where
  os : w'.os = w.os
  tape : w'.tape = w.tape
  output : w'.output = w.output
  size : w.heap.size ≤ w'.heap.size
  block : ∀ k, k < w.heap.size → k ≠ ka → k ≠ kn → some k ≠ r → w'.heap[k]? = w.heap[k]?
/-- The row's own block stays, or is a new one. -/
def Fr (w : World) (sv sv' : Value) : Prop := ∀ g, sv'.ownBlock = some g → sv.ownBlock = some g ∨ w.heap.size ≤ g
theorem Fr.refl (w : World) (sv : Value) : Fr w sv sv := fun _ e => .inl e
theorem Fr.trans {w w1 : World} {a b c : Value} (h : Fr w a b) (k : Fr w1 b c) (hs : w.heap.size ≤ w1.heap.size) : Fr w a c := fun g e => by
  rcases k g e with e | e
  · exact h g e
  · exact .inr (by omega)
theorem AK.an {ka kn : Nat} {r : Option Nat} {w w' : World} (h : AK ka r w w') : AN ka kn r w w' := ⟨h.os, h.tape, h.output, h.size, fun k h1 h2 _ h3 => h.block k h1 h2 h3⟩
theorem AN.refl (ka kn : Nat) (r : Option Nat) (w : World) : AN ka kn r w w := ⟨rfl, rfl, rfl, Nat.le_refl _, fun _ _ _ _ _ => rfl⟩
theorem AN.set {ka kn : Nat} {r : Option Nat} {w : World} (i : Nat) (v : Value) : AN ka kn r w (w.setCell ⟨kn, i, none⟩ v) := ⟨rfl, rfl, rfl, by simp [World.setCell], fun k _ _ h2 _ => heap_setCell_other _ ⟨kn, i, none⟩ _ _ h2⟩
theorem AN.trans {ka kn : Nat} {sv sv' : Value} {a b c : World} (h : AN ka kn sv.ownBlock a b) (k : AN ka kn sv'.ownBlock b c) (hr : Fr a sv sv') : AN ka kn sv.ownBlock a c :=
  ⟨k.os.trans h.os, k.tape.trans h.tape, k.output.trans h.output, Nat.le_trans h.size k.size, fun i hi h1 h2 h3 => by
    rw [k.block i (by have := h.size; omega) h1 h2 (fun e => ?_), h.block i hi h1 h2 h3]
    rcases hr i e.symm with e' | e'
    · exact h3 e'.symm
    · omega⟩
/-- The second block is a new one. -/
theorem AN.ak {ka kn : Nat} {sv sv' : Value} {a b c : World} (h : AK ka sv.ownBlock a b) (k : AN ka kn sv'.ownBlock b c) (hr : Fr a sv sv') (hn : a.heap.size ≤ kn) : AK ka sv.ownBlock a c :=
  ⟨k.os.trans h.os, k.tape.trans h.tape, k.output.trans h.output, Nat.le_trans h.size k.size, fun i hi h1 h2 => by
    rw [k.block i (by have := h.size; omega) h1 (by omega) (fun e => ?_), h.block i hi h1 h2]
    rcases hr i e.symm with e' | e'
    · exact h2 e'.symm
    · omega⟩
theorem AK.transF {ka : Nat} {sv sv' : Value} {a b c : World} (h : AK ka sv.ownBlock a b) (k : AK ka sv'.ownBlock b c) (hr : Fr a sv sv') : AK ka sv.ownBlock a c := h.trans k hr
theorem RowAt.an {ka kn k : Nat} {r : Option Nat} {w w' : World} {cs : Array Value} {T : TypeId} (h : RowAt w k cs T) (ha : AN ka kn r w w') (h1 : k ≠ ka) (h2 : k ≠ kn) (h3 : r ≠ some k) : RowAt w' k cs T := by
  unfold RowAt
  rw [ha.block k h.lt h1 h2 (fun e => h3 e.symm)]
  exact h
theorem Fr.ne {w : World} {sv sv' : Value} (h : Fr w sv sv') {k : Nat} (hk : k < w.heap.size) (hn : sv.ownBlock ≠ some k) : sv'.ownBlock ≠ some k := fun e => by
  rcases h k e with e | e
  · exact hn e
  · omega

/-- The arena's state: where its row of nodes lies. -/
def AS (w : World) (ka : Nat) (sv : Value) (ns : List Nd) : Prop := RowAt w ka #[sv] 132 ∧ ON w (ka + 1) sv ns
theorem AS.below {w w' : World} {ka : Nat} {sv : Value} {ns : List Nd} (h : AS w ka sv ns) (hb : Below w.heap.size w w') : AS w' ka sv ns := ⟨h.1.belowS hb, h.2.below hb (Nat.le_refl _)⟩
theorem AS.own {w : World} {ka : Nat} {sv : Value} {ns : List Nd} (h : AS w ka sv ns) : ∀ g, sv.ownBlock = some g → ka + 1 ≤ g ∧ g < w.heap.size := fun g e => World.ownsRow.lt h.2 g e
theorem AS.other {w : World} {ka kn : Nat} {sv : Value} {ns : List Nd} (h : AS w ka sv ns) (h1 : kn ≠ ka) (h2 : sv.ownBlock ≠ some kn) (i : Nat) (v : Value) : AS (w.setCell ⟨kn, i, none⟩ v) ka sv ns := by
  refine ⟨h.1.other ⟨kn, i, none⟩ v (Ne.symm h1), h.2.1, ?_⟩
  rcases h.2.2 with h' | ⟨g, cap, cur, hv, hg, hc, r⟩
  · exact .inl h'
  · exact .inr ⟨g, cap, cur, hv, hg, by rw [heap_setCell_other _ ⟨kn, i, none⟩ _ _ (fun e => h2 (by subst hv; simp only [Value.ownBlock]; exact congrArg some e))]; exact hc, r⟩
/-- A row of pairs that lies apart from the arena. -/
def AR (w : World) (ka kn : Nat) (sv v : Value) (l : List Pr) : Prop := RP w v l ∧ (l = [] ∨ ∀ b, v.ownBlock = some b → b ≠ ka ∧ b ≠ kn ∧ sv.ownBlock ≠ some b)
theorem RP.blk {w : World} {v : Value} {l : List Pr} (h : RP w v l) (hl : l ≠ []) : ∀ b, v.ownBlock = some b → b < w.heap.size := fun b e => by
  rcases h with ⟨_, h⟩ | ⟨a, cap, rfl, h1, h2, hc⟩
  · exact absurd h hl
  · cases l with
    | nil => exact absurd rfl hl
    | cons p l =>
      have h0 := block_lt_of_cell (hc 0 (.string (mkS p.1)) rfl)
      have hb : (a.add 0).block = a.block := by rw [Addr.add_zero']
      simp only [Value.ownBlock, Option.some.injEq] at e
      omega
theorem RP.keep {w w' : World} {v : Value} {l : List Pr} (h : RP w v l) (hk : l ≠ [] → ∀ b, v.ownBlock = some b → w'.heap[b]? = w.heap[b]?) : RP w' v l := by
  rcases h with h | ⟨a, cap, rfl, h1, h2, hc⟩
  · exact .inl h
  · refine .inr ⟨a, cap, rfl, h1, h2, fun j u hj => ?_⟩
    have hl : l ≠ [] := fun e => by subst e; simp [flat] at hj
    have hb : (a.add j).block = a.block := by unfold Addr.add; split <;> rfl
    exact (World.cell?_of_block (w := w) (w' := w') (a := a.add j) (by rw [hb]; exact hk hl a.block rfl)).trans (hc j u hj)
theorem AR.step {w w' : World} {ka kn : Nat} {sv sv' v : Value} {l : List Pr} (h : AR w ka kn sv v l) (ha : AN ka kn sv.ownBlock w w') (hf : Fr w sv sv') : AR w' ka kn sv' v l := by
  obtain ⟨h1, h2⟩ := h
  refine ⟨h1.keep fun hl b e => ?_, ?_⟩
  · rcases h2 with h2 | h2
    · exact absurd h2 hl
    · obtain ⟨x1, x2, x3⟩ := h2 b e
      exact ha.block b (h1.blk hl b e) x1 x2 (fun e => x3 e.symm)
  · by_cases hl : l = []
    · exact .inl hl
    · rcases h2 with h2 | h2
      · exact .inl h2
      · exact .inr fun b e => ⟨(h2 b e).1, (h2 b e).2.1, hf.ne (h1.blk hl b e) (h2 b e).2.2⟩
theorem AR.below {w w' : World} {ka kn : Nat} {sv v : Value} {l : List Pr} (h : AR w ka kn sv v l) (hb : Below w.heap.size w w') : AR w' ka kn sv v l := ⟨RP.below h.1 hb (Nat.le_refl _), h.2⟩
/-- A row that has just been made. -/
theorem AR.new {w0 w : World} {ka kn : Nat} {sv v : Value} {l : List Pr} (h : RP w v l) (hn : ∀ g, v.ownBlock = some g → w0.heap.size ≤ g) (h1 : ka < w0.heap.size) (h2 : kn < w0.heap.size) (h3 : ∀ g, sv.ownBlock = some g → g < w0.heap.size) : AR w ka kn sv v l :=
  ⟨h, .inr fun b e => ⟨by have := hn b e; omega, by have := hn b e; omega, fun e2 => by have := hn b e; have := h3 b e2; omega⟩⟩

/-- What build answers. -/
def BuildAns (ka : Nat) (sv : Value) (r : List Nd × Int) (w : World) (e : Ending) (w' : World) : Prop := ∃ sv', e = .returned (.int .i64 r.2) ∧ AS w' ka sv' r.1 ∧ AK ka sv.ownBlock w w' ∧ Fr w sv sv'
def BuildC (f : Nat) : Prop := ∀ (l : List Pr) (ns : List Nd) (ka : Nat) (sv v : Value) (w : World), sortP l → halfP l → (∀ p ∈ l, p.1.length < f) → l.length ≤ 1000 → ns.length + f * l.length ≤ 500000 → AS w ka sv ns → AR w ka ka sv v l →
  Calls Try.prog 78 #[.pointer (some ⟨ka, 0, none⟩), v] w (BuildAns ka sv (layF f l ns) w)

/-- What one group of pairs makes of the arena and of the branch. -/
def StepAns (ka kn : Nat) (sv : Value) (nd : Nd) (c : Nat) (r : List Nd × Int) (w : World) (e : Ending) (w' : World) : Prop := ∃ sv', e = .returned (.tuple #[]) ∧ AS w' ka sv' r.1 ∧ RowAt w' kn (ndc { nd with kids := nd.kids.set c r.2 }) 88 ∧ AN ka kn sv.ownBlock w w' ∧ Fr w sv sv'
set_option maxHeartbeats 8000000 in
theorem step_any (f : Nat) (ih : BuildC f) (c : Nat) (l : List Pr) (ns : List Nd) (nd : Nd) (ka kn kx : Nat) (sv v : Value) (w : World) (hc : c < 16) (hs : sortP (cutK 1 l)) (hh : halfP (cutK 1 l)) (hk : ∀ p ∈ l, 1 ≤ p.1.length) (hz : ∀ p ∈ l, p.1.length < f + 1) (hl : l.length ≤ 1000) (hn : ns.length + f * l.length ≤ 500000)
    (ha : AS w ka sv ns) (hr : AR w ka kn sv v l) (hnd : RowAt w kn (ndc nd) 88) (hkl : nd.kids.length = 16) (hx : RowAt w kx #[.pointer (some ⟨ka, 0, none⟩)] 130) (e1 : kn ≠ ka) (e2 : kx ≠ ka) (_e3 : kx ≠ kn) (e4 : sv.ownBlock ≠ some kn) (e5 : sv.ownBlock ≠ some kx) :
    Calls Try.prog 131 #[.int .u8 c, v, .pointer (some ⟨kx, 0, none⟩), .pointer (some ⟨kn, 0, none⟩)] w (StepAns ka kn sv nd c (layF f (cutK 1 l) ns) w) := by
  have hlc : (cutK 1 l).length = l.length := List.length_map _
  have KL := Lib.hid (fun W (hb : Below w.heap.size w W) => less_any l 1 v W (RP.below hr.1 hb (Nat.le_refl _)) (by omega) hk (by omega))
  rw [show ((1 : Nat) : Int) = 1 from rfl] at KL
  have KB := Lib.hid (fun v2 W (h2 : RP W v2 (cutK 1 l)) (h3 : ∀ g, v2.ownBlock = some g → w.heap.size ≤ g) (hb : Below w.heap.size w W) => ih (cutK 1 l) ns ka sv v2 W hs hh (fun p hp => by
    obtain ⟨q, hq, rfl⟩ := List.mem_map.1 hp
    have := hz q hq
    have := hk q hq
    show (q.1.drop 1).length < f
    rw [List.length_drop]; omega) (by omega) (by rw [hlc]; exact hn) (ha.below hb) (AR.new h2 h3 ha.1.lt ha.1.lt (fun g e => (ha.own g e).2)))
  generalize layF f (cutK 1 l) ns = r at *
  obtain ⟨ms, ix⟩ := r
  obtain ⟨p, cp, rfl, z1, z2⟩ := RowE.shape encP hr.1
  have HA := Lib.hid ha
  have HR := Lib.hid hr
  have HN := Lib.hid hnd
  have HX := Lib.hid hx
  have hci : (c : Int) < 16 := by omega
  clear ha hr hnd hx hs hh hk hz hl hn ih hlc
  go_enter Try.func131, Try.ntmps131
  have q0 : ∀ u : InC (fun W' => AK ka sv.ownBlock w.drew W'), u.w.cell? ⟨kx, 0, none⟩ = some (.pointer (some ⟨ka, 0, none⟩)) := fun u => (RowAt.ak HX.out.drew u.is e2 e5).cell 0
  haveI : Nonempty (InC (fun W' => AK ka sv.ownBlock w.drew W')) := ⟨⟨w.drew, AK.refl _ _ _⟩⟩
  (refine region_order [0, 1, 2, 5] [3, 4] 6 (fun W' => AK ka sv.ownBlock w.drew W') mix ?hB ?hC ?_; case hB => kernel_rfl); (case hC => (exact AK.refl _ _ _)); (iterate 4 ((with_reducible refine xr_step ?_); (refine ⟨_, rfl, ?_⟩); intro K hK; go_simp; (with_reducible refine hK _ ?_); clear hK K)); (with_reducible refine xr_nil ?_); ((with_reducible refine xe_step ?_); (refine ⟨_, rfl, ?_⟩); intro K hK; unfold EX; go_simp; (go_at_call 129; (with_reducible refine (KL.out _ (Below.refl _ _).drew).mono ?_); rintro e w2 ⟨v2, rfl, hr2, hn2, hb2⟩; refine ⟨_, rfl, AK.ofBelow hb2, hK _ _ ?_⟩; clear hK K)); ((with_reducible refine xe_step ?_); (refine ⟨_, rfl, ?_⟩); intro K hK; unfold EX; go_simp; (go_at_call 78; (with_reducible refine (KB.out v2 w2 hr2 (fun g hg => Nat.le_trans (Below.refl w.heap.size w).drew.size (hn2 g hg)) ((Below.refl w.heap.size w).drew.trans (hb2.mono (Below.refl w.heap.size w).drew.size))).mono ?_); rintro e w3 ⟨sv3, rfl, ha3, hk3, hf3⟩; refine ⟨_, rfl, (AK.ofBelow (ka := ka) (r := sv.ownBlock) hb2).same hk3, hK _ _ ?_⟩; clear hK K)); (with_reducible refine xe_nil ?_); (simp only [List.drop_succ_cons, List.drop_zero])
  have HB2 := (Below.refl w.heap.size w).drew.trans (hb2.mono (Below.refl w.heap.size w).drew.size)
  have AKT := (AK.ofBelow (ka := ka) (r := sv.ownBlock) HB2).same hk3
  have HN3 := Lib.hid ((HN.out.belowS HB2).ak hk3 e1 e4)
  have HF := Lib.hid (show Fr w sv sv3 from fun g hg => (hf3 g hg).imp id (fun h => Nat.le_trans HB2.size h))
  have HE := Lib.hid (HF.out.ne HN.out.lt e4)
  have HA3 := Lib.hid (ha3.other (kn := kn) e1 HE.out (3 + c) (.int .i64 ix))
  have AN3 := Lib.hid ((AK.an (kn := kn) AKT).trans (AN.set (ka := ka) (r := sv3.ownBlock) (3 + c) (.int .i64 ix)) HF.out)
  have HN4 := Lib.hid (HN3.out.ndKid hkl c hc ix)
  obtain ⟨c3, f3⟩ := HN3.out.ndK c hc
  clear q0 this HB2 AKT HN3 ha3 hk3 hf3 hr2 hn2 hb2 KL KB HA HR HN HX
  go_wp2
  refine bodyPost_end (results_none rfl _ _ _) rfl ?_
  exact ⟨sv3, rfl, HA3.out, HN4.out, AN3.out, HF.out⟩
end Go.Proofs.Ytefmlbckbhlgdaa
namespace Go.Proofs.Ytefmlbckbhlgdaa
open Go.RowKit Go.Shelf
set_option maxRecDepth 100000
/-- The pairs whose keys begin with m or more. -/
def restL (m : Nat) (l : List Pr) : List Pr := l.filter fun p => decide (m < headN p)
theorem restL_zero {l : List Pr} (h : ∀ p ∈ l, 1 ≤ p.1.length) : restL 0 l = l := List.filter_eq_self.2 fun p hp => by
  have := h p hp
  obtain ⟨k, v⟩ := p
  cases k with
  | nil => simp at this
  | cons x k => simp [headN]
theorem headN_at {p : Pr} {x : UInt8} {r : List UInt8} (h : p.1 = x :: r) : headN p = x.toNat + 1 := by
  obtain ⟨k, v⟩ := p
  simp only at h
  subst h
  rfl
/-- A row that does not fall is cut where its first number ends. -/
theorem cut_at {α : Type} (g : α → Nat) (h : Nat) {R : List α} {j : Nat} (hs : R.Pairwise fun a b => g a ≤ g b) (hall : ∀ a ∈ R, h ≤ g a) (ht : ∀ a ∈ R.take j, g a = h) (hd : ∀ a, R[j]? = some a → g a ≠ h) :
    R.take j = R.filter (fun a => g a == h) ∧ R.drop j = R.filter fun a => decide (h < g a) := by
  have hdr : ∀ a ∈ R.drop j, h < g a := fun a ha => by
    cases e : R[j]? with
    | none =>
      rw [List.getElem?_eq_none_iff] at e
      rw [List.drop_eq_nil_of_le e] at ha
      cases ha
    | some b =>
      obtain ⟨hlt, eb⟩ := List.getElem?_eq_some_iff.1 e
      have hb := hall b (List.mem_of_getElem? e)
      have hb2 := hd b e
      have hsd : (R.drop j).Pairwise fun a b => g a ≤ g b := hs.drop
      rw [List.drop_eq_getElem_cons hlt, eb] at ha hsd
      rcases List.mem_cons.1 ha with rfl | ha
      · omega
      · have := (List.pairwise_cons.1 hsd).1 a ha
        omega
  have e1 : (R.take j).filter (fun a => g a == h) = R.take j := List.filter_eq_self.2 fun a ha => by simp [ht a ha]
  have e2 : (R.drop j).filter (fun a => g a == h) = [] := List.filter_eq_nil_iff.2 fun a ha => by have := hdr a ha; simp; omega
  have e3 : (R.take j).filter (fun a => decide (h < g a)) = [] := List.filter_eq_nil_iff.2 fun a ha => by have := ht a ha; simp; omega
  have e4 : (R.drop j).filter (fun a => decide (h < g a)) = R.drop j := List.filter_eq_self.2 fun a ha => by simp [hdr a ha]
  constructor
  · conv => rhs; rw [← List.take_append_drop j R]
    rw [List.filter_append, e1, e2, List.append_nil]
  · conv => rhs; rw [← List.take_append_drop j R]
    rw [List.filter_append, e3, e4, List.nil_append]

/-- The nodes and the kids behind the groups below m. -/
def nsF (f : Nat) (l : List Pr) (ns : List Nd) (m : Nat) : List Nd := (kidsF f l (List.range m) (ns, [])).1
def ksF (f : Nat) (l : List Pr) (ns : List Nd) (m : Nat) : List Int := (kidsF f l (List.range m) (ns, [])).2
def padK (ks : List Int) (m : Nat) : List Int := ks ++ List.replicate (16 - m) (-1)
theorem ksF_len (f : Nat) (l : List Pr) (ns : List Nd) (m : Nat) : (ksF f l ns m).length = m := by unfold ksF; rw [kidsF_map]; simp
theorem skip_one {f : Nat} {l : List Pr} {ns : List Nd} {m : Nat} (hm : m < 16) (h : cutC m l = []) : nsF f l ns (m + 1) = nsF f l ns m ∧ padK (ksF f l ns (m + 1)) (m + 1) = padK (ksF f l ns m) m := by
  unfold nsF ksF padK
  rw [kidsF_range, h, layF_nil]
  refine ⟨rfl, ?_⟩
  rw [show 16 - m = (16 - (m + 1)) + 1 by omega, List.replicate_succ, List.append_assoc]
  rfl
theorem skip_to {f : Nat} {l : List Pr} {ns : List Nd} {m : Nat} : ∀ d, m + d ≤ 16 → (∀ c, m ≤ c → c < m + d → cutC c l = []) → nsF f l ns (m + d) = nsF f l ns m ∧ padK (ksF f l ns (m + d)) (m + d) = padK (ksF f l ns m) m
  | 0, _, _ => ⟨rfl, rfl⟩
  | d + 1, h1, h2 => by
    obtain ⟨a, b⟩ := skip_to (f := f) (l := l) (ns := ns) (m := m) d (by omega) fun c h3 h4 => h2 c h3 (by omega)
    obtain ⟨a', b'⟩ := skip_one (f := f) (l := l) (ns := ns) (m := m + d) (by omega) (h2 (m + d) (by omega) (by omega))
    exact ⟨a'.trans a, b'.trans b⟩
theorem padK_set {ks : List Int} {m : Nat} (h : ks.length = m) (hm : m < 16) (x : Int) : (padK ks m).set m x = padK (ks ++ [x]) (m + 1) := by
  unfold padK
  rw [List.set_append_right _ _ (by omega), h, Nat.sub_self, show 16 - m = (16 - (m + 1)) + 1 by omega, List.replicate_succ, List.set_cons_zero, List.append_assoc]
  rfl
theorem padK_len {ks : List Int} {m : Nat} (h : ks.length = m) (hm : m ≤ 16) : (padK ks m).length = 16 := by unfold padK; simp; omega
theorem nsF_succ (f : Nat) (l : List Pr) (ns : List Nd) (c : Nat) : nsF f l ns (c + 1) = (layF f (cutC c l) (nsF f l ns c)).1 := by unfold nsF; rw [kidsF_range]
theorem ksF_succ (f : Nat) (l : List Pr) (ns : List Nd) (c : Nat) : ksF f l ns (c + 1) = ksF f l ns c ++ [(layF f (cutC c l) (nsF f l ns c)).2] := by unfold ksF nsF; rw [kidsF_range]
theorem cutC_empty {c : Nat} {l : List Pr} (h : ∀ p ∈ l, headN p ≠ c + 1) : cutC c l = [] := by
  have : l.filter (hasC c) = [] := List.filter_eq_nil_iff.2 fun p hp => by rw [← headN_hasC]; simpa using h p hp
  unfold cutC
  rw [this]; rfl
theorem filter_head (c : Nat) (l : List Pr) : l.filter (fun p => headN p == c + 1) = l.filter (hasC c) := List.filter_congr fun p _ => headN_hasC c p

/-- A group of pairs, as far as it goes, and what stands behind it. -/
theorem group_at {f : Nat} {l : List Pr} {ns : List Nd} {m c j : Nat} {x : Pr} {t : List Pr} (hs : sortP l) (hm : m ≤ c) (hc : c < 16) (hR : restL m l = x :: t) (hx : headN x = c + 1) (ht : ∀ a ∈ (x :: t).take j, headN a = c + 1) (hd : ∀ a, (x :: t)[j]? = some a → headN a ≠ c + 1) :
    (x :: t).take j = l.filter (hasC c) ∧ (x :: t).drop j = restL (c + 1) l ∧ nsF f l ns c = nsF f l ns m ∧ padK (ksF f l ns c) c = padK (ksF f l ns m) m := by
  have hw : l.Pairwise (fun a b => headN a ≤ headN b) := List.Pairwise.imp (fun h => headN_le h) hs
  have hwR : (x :: t).Pairwise (fun a b => headN a ≤ headN b) := by rw [← hR]; exact hw.filter _
  have hall : ∀ a ∈ x :: t, c + 1 ≤ headN a := fun a ha => by
    rcases List.mem_cons.1 ha with rfl | ha
    · omega
    · have := (List.pairwise_cons.1 hwR).1 a ha; omega
  obtain ⟨e1, e2⟩ := cut_at headN (c + 1) hwR hall ht hd
  have hmem : ∀ p ∈ l, m < headN p → c + 1 ≤ headN p := fun p hp h => hall p (by rw [← hR]; exact List.mem_filter.2 ⟨hp, by simpa using h⟩)
  refine ⟨?_, ?_, ?_⟩
  · rw [e1, ← hR, filter_head]
    unfold restL
    rw [List.filter_filter]
    refine List.filter_congr fun p hp => ?_
    rw [← headN_hasC]
    by_cases h : headN p = c + 1
    · simp [h]; omega
    · simp [h]
  · rw [e2, ← hR]
    unfold restL
    rw [List.filter_filter]
    refine List.filter_congr fun p hp => ?_
    by_cases h : c + 1 < headN p
    · simp [h]; omega
    · simp [h]
  · have := skip_to (f := f) (l := l) (ns := ns) (m := m) (c - m) (by omega) fun d h1 h2 => cutC_empty fun p hp e => by
      have := hmem p hp (by omega)
      omega
    rw [show m + (c - m) = c by omega] at this
    exact this
theorem rest_nil {f : Nat} {l : List Pr} {ns : List Nd} {m : Nat} (hm : m ≤ 16) (hR : restL m l = []) : nsF f l ns 16 = nsF f l ns m ∧ padK (ksF f l ns 16) 16 = padK (ksF f l ns m) m := by
  have := skip_to (f := f) (l := l) (ns := ns) (m := m) (16 - m) (by omega) fun d h1 h2 => cutC_empty fun p hp e => by
    have : p ∈ restL m l := List.mem_filter.2 ⟨hp, by simp; omega⟩
    rw [hR] at this
    cases this
  rw [show m + (16 - m) = 16 by omega] at this
  exact this
end Go.Proofs.Ytefmlbckbhlgdaa
namespace Go.Proofs.Ytefmlbckbhlgdaa
open Go.RowKit Go.Shelf
set_option maxRecDepth 100000
def lenOf : Value → Nat
  | .slice _ n _ => n
  | _ => 0
theorem RP.drop {w : World} {a : Addr} {n c i : Nat} {l : List Pr} (h : RP w (.slice (some a) n c) l) (hi : i ≤ l.length) : RP w (.slice (some (a.add (i * 2))) (n - i) (c - i)) (l.drop i) := by
  rcases h with ⟨hv, _⟩ | ⟨a', cap, hv, h1, h2, hc⟩
  · cases hv
  · injection hv with e1 e2 e3
    injection e1 with e1
    subst e1 e2 e3
    refine .inr ⟨_, _, by rw [List.length_drop], by rw [List.length_drop]; omega, by omega, fun j u hj => ?_⟩
    have h := hc (i * 2 + j) u (by rw [show (flat encP (l.drop i))[j]? = ((flat encP l).drop (i * 2))[j]? from by rw [show i * 2 = i * encP.k from rfl, flat_drop]] at hj; rwa [List.getElem?_drop] at hj)
    rw [← Go.Deep.add_add] at h
    exact h
theorem RP.empty (w : World) (p : Option Addr) (hp : p ≠ none) (c : Nat) (hc : c ≤ maxLen) : RP w (.slice p 0 c) [] := by
  cases p with
  | none => exact absurd rfl hp
  | some a => exact .inr ⟨a, c, rfl, Nat.zero_le _, hc, fun j u hj => by simp [flat] at hj⟩

def EachAns (ka kn : Nat) (sv : Value) (nd : Nd) (ns : List Nd) (ks : List Int) (w : World) (e : Ending) (w' : World) : Prop := ∃ sv', e = .returned (.tuple #[]) ∧ AS w' ka sv' ns ∧ RowAt w' kn (ndc { nd with kids := ks }) 88 ∧ AN ka kn sv.ownBlock w w' ∧ Fr w sv sv'
set_option maxHeartbeats 8000000 in
theorem each_any (f : Nat) (ih : BuildC f) (l : List Pr) (ns : List Nd) (nd : Nd) (ka kn kx : Nat) (sv v : Value) (w : World) (hs : sortP l) (hh : halfP l) (hk : ∀ p ∈ l, 1 ≤ p.1.length) (hz : ∀ p ∈ l, p.1.length < f + 1) (hl : l.length ≤ 1000) (hn : ns.length + f * l.length ≤ 500000) (_hf : f ≤ 1000)
    (ha : AS w ka sv ns) (hr : AR w ka kn sv v l) (hnd : RowAt w kn (ndc nd) 88) (hkl : nd.kids = noKids) (hx : RowAt w kx #[.pointer (some ⟨ka, 0, none⟩)] 130) (e1 : kn ≠ ka) (e2 : kx ≠ ka) (e3 : kx ≠ kn) (e4 : sv.ownBlock ≠ some kn) (e5 : sv.ownBlock ≠ some kx) :
    Calls Try.prog 130 #[v, .func (.func 131) #[] #[.pointer (some ⟨kx, 0, none⟩), .pointer (some ⟨kn, 0, none⟩)]] w (EachAns ka kn sv nd (nsF f l ns 16) (padK (ksF f l ns 16) 16) w) := by
  have eg : ∀ args w, (callFunc 131 args).run Try.prog w = .ok (.enter 131 args) w := fun args w => by kernel_rfl
  -- one group
  have KS := Lib.hid (fun (m c : Nat) (sv1 v1 : Value) (W : World) (hc : c < 16) (k1 : AS W ka sv1 (nsF f l ns c)) (k2 : AR W ka kn sv1 v1 (l.filter (hasC c))) (k3 : RowAt W kn (ndc { nd with kids := padK (ksF f l ns c) c }) 88) (k4 : RowAt W kx #[.pointer (some ⟨ka, 0, none⟩)] 130) (k5 : sv1.ownBlock ≠ some kn) (k6 : sv1.ownBlock ≠ some kx) =>
    step_any f ih c (l.filter (hasC c)) (nsF f l ns c) { nd with kids := padK (ksF f l ns c) c } ka kn kx sv1 v1 W hc (sortP_cutC hs) (halfP_cutC hh) (fun p hp => hk p (List.mem_filter.1 hp).1) (fun p hp => hz p (List.mem_filter.1 hp).1)
      (Nat.le_trans (List.length_filter_le _ _) hl) (by
        have h1 := kidsF_len f l ns c
        have h2 := cutC_sum l (c + 1)
        rw [List.range_succ, List.map_append, List.sum_append] at h2
        simp only [List.map_cons, List.map_nil, List.sum_cons, List.sum_nil, Nat.add_zero] at h2
        have h3 := Nat.mul_le_mul_left f h2
        rw [Nat.mul_add] at h3
        have h4 : (cutC c l).length = (l.filter (hasC c)).length := List.length_map _
        rw [h4] at h3
        unfold nsF
        omega) k1 k2 k3 (padK_len (ksF_len _ _ _ _) (by omega)) k4 e1 e2 e3 k5 k6)
  have HR0 : Hid (restL 0 l = l) := Lib.hid (restL_zero hk)
  have HK0 : Hid (padK (ksF f l ns 0) 0 = nd.kids) := Lib.hid (by rw [hkl]; rfl)
  have HG := Lib.hid (fun (m c j : Nat) (x : Pr) (t : List Pr) => @group_at f l ns m c j x t hs)
  have HNIL := Lib.hid (fun (m : Nat) => @rest_nil f l ns m)
  have HH := Lib.hid (fun (x : Pr) (hx : x ∈ l) => (⟨hk x hx, hh x hx⟩ : 1 ≤ x.1.length ∧ x.1.all (· < 16) = true))
  have HA := Lib.hid ha
  have HR := Lib.hid hr
  have HN := Lib.hid hnd
  have HX := Lib.hid hx
  have HLL := Lib.hid hl
  have HKN := Lib.hid hnd.lt
  clear ha hr hnd hx hs hh hk hz hl hn ih hkl _hf
  go_enter Try.func130, Try.ntmps130
  go_upto_region 0 with (fail)
  go_loopw [0] (fun s0 wr => ∃ (m : Nat) (sv1 : Value), m ≤ 16 ∧ Hid (AS wr ka sv1 (nsF f l ns m)) ∧ Hid (AR wr ka kn sv1 s0 (restL m l)) ∧ Hid (RowAt wr kn (ndc { nd with kids := padK (ksF f l ns m) m }) 88) ∧ Hid (AN ka kn sv.ownBlock w wr) ∧ Hid (Fr w sv sv1)) (fun s0 _ => lenOf s0)
  case atStart => exact ⟨0, sv, Nat.zero_le _, HA, by rw [HR0.out]; exact HR, by rw [HK0.out]; exact HN, Lib.hid (AN.refl _ _ _ _), Lib.hid (Fr.refl _ _)⟩
  case round =>
    clear HA HR HN HR0 HK0
    obtain ⟨m, sv1, hm, ha, hr, hn, hb, hf⟩ := hrel
    have HA := Lib.hid ha.out
    have HR := Lib.hid hr.out
    have HN := Lib.hid hn.out
    have HB := Lib.hid hb.out
    have HF := Lib.hid hf.out
    clear ha hr hn hb hf
    cases hR : restL m l with
    | nil =>
      have hh := HNIL.out m hm hR
      rw [hR] at HR
      obtain ⟨p, c, rfl, z1, z2⟩ := RowE.shape encP HR.out.1
      simp only [List.length_nil] at *
      have HA2 := Lib.hid (show AS wr ka sv1 (nsF f l ns 16) by rw [hh.1]; exact HA.out)
      have HN2 := Lib.hid (show RowAt wr kn (ndc { nd with kids := padK (ksF f l ns 16) 16 }) 88 by rw [hh.2]; exact HN.out)
      clear hh HA HN HG HNIL hR
      go_wp2
      refine bodyPost_end (results_none rfl _ _ _) rfl ?_
      exact ⟨sv1, rfl, HA2.out, HN2.out, HB.out, HF.out⟩
    | cons x t =>
      rw [hR] at HR
      obtain ⟨p, cp, rfl, z1, z2⟩ := RowE.shape encP HR.out.1
      obtain ⟨a, rfl, c0, -⟩ := RP.at HR.out.1 (i := 0) rfl
      rw [Nat.zero_mul, Addr.add_zero'] at c0
      have hml : ∀ q ∈ x :: t, q ∈ l := fun q hq => by rw [← hR] at hq; exact (List.mem_filter.1 hq).1
      have hmm : ∀ q ∈ x :: t, m < headN q := fun q hq => by rw [← hR] at hq; simpa using (List.mem_filter.1 hq).2
      obtain ⟨y, ys, hxy⟩ : ∃ y ys, x.1 = y :: ys := by
        have := (HH.out x (hml x List.mem_cons_self)).1
        match h : x.1, this with
        | y :: ys, _ => exact ⟨y, ys, rfl⟩
      obtain ⟨c, hc⟩ : ∃ c, y.toNat = c := ⟨_, rfl⟩
      have hxc : headN x = c + 1 := by rw [headN_at hxy, hc]
      have hc16 : c < 16 := by
        have := (HH.out x (hml x List.mem_cons_self)).2
        rw [hxy, List.all_cons, Bool.and_eq_true, decide_eq_true_eq, UInt8.lt_iff_toNat_lt] at this
        have h16 : (16 : UInt8).toNat = 16 := rfl
        omega
      have hmc : m ≤ c := by have := hmm x List.mem_cons_self; omega
      obtain ⟨hi0, hg0⟩ := at_byte (s := mkS x.1) (i := 0) (c := y) (by rw [bl_mk, hxy]; rfl)
      have hgc : ((mkS x.1)[0]'hi0).toNat = c := by rw [hg0]; exact hc
      have hi1 : (0 : Int) < ((mkS x.1).size : Int) := by omega
      have hpos : 0 < (x :: t).length := by rw [List.length_cons]; omega
      have hn1 : (x :: t).length ≤ 1000 := by
        have h1 : (restL m l).length ≤ l.length := List.length_filter_le _ _
        rw [hR] at h1
        exact Nat.le_trans h1 HLL.out
      generalize hlen : (x :: t).length = n at *
      replace hlen := Lib.hid hlen
      have HML := Lib.hid hml
      have HXC := Lib.hid hxc
      have HRR := Lib.hid hR
      clear hml hmm hxy hg0 hR hxc
      go_upto_region 3 with (fail)
      clear c0
      have HT0 : Hid (∀ q ∈ (x :: t).take 0, headN q = c + 1) := Lib.hid (fun q hq => by simp at hq)
      go_loopw [5] (fun s5 w' => ∃ j : Nat, j ≤ n ∧ s5 = .int .i64 j ∧ Hid (∀ q ∈ (x :: t).take j, headN q = c + 1) ∧ wr = w') (fun s5 _ => n - (intOf s5).toNat)
      case atStart => exact ⟨0, Nat.zero_le _, rfl, HT0, rfl⟩
      case round =>
        clear HT0
        obtain ⟨j, hj, rfl, ht, rfl⟩ := hrel
        have HT := Lib.hid ht.out
        have hR := HRR.out
        have hxc := HXC.out
        clear ht
        by_cases hlt : j < n
        · obtain ⟨q, hq⟩ : ∃ q, (x :: t)[j]? = some q := ⟨_, List.getElem?_eq_getElem (by rw [hlen.out]; exact hlt)⟩
          obtain ⟨a', e', d0, -⟩ := RP.at HR.out.1 hq
          obtain rfl := Option.some.inj e'
          obtain ⟨z, zs, hqz⟩ : ∃ z zs, q.1 = z :: zs := by
            have := (HH.out q (HML.out q (List.mem_of_getElem? hq))).1
            match h : q.1, this with
            | z :: zs, _ => exact ⟨z, zs, rfl⟩
          obtain ⟨hi2, hg2⟩ := at_byte (s := mkS q.1) (i := 0) (c := z) (by rw [bl_mk, hqz]; rfl)
          have hgz : ((mkS q.1)[0]'hi2).toNat = z.toNat := by rw [hg2]
          have hi3 : (0 : Int) < ((mkS q.1).size : Int) := by omega
          have hhq := headN_at hqz
          clear hqz hg2 e'
          generalize hzn : z.toNat = zn at *
          by_cases he : zn = c
          · have HT2 := Lib.hid (show ∀ q' ∈ (x :: t).take (j + 1), headN q' = c + 1 from fun q' hq' => by
              rw [List.take_add_one, hq] at hq'
              rcases List.mem_append.1 hq' with h | h
              · exact HT.out q' h
              · simp at h
                subst h
                omega)
            have hbq : ((zn : Int) == (c : Int)) = true := by simp [he]
            clear hhq hq hR hxc he
            go_wp2
            exact ⟨⟨j + 1, by omega, by simp, HT2, by first | rfl | trivial⟩, by simp [intOf]; omega⟩
          · have hstop : ∀ q', (x :: t)[j]? = some q' → headN q' ≠ c + 1 := fun q' h => by
              rw [hq] at h
              obtain rfl := Option.some.inj h
              omega
            have hbq : ((zn : Int) == (c : Int)) = false := beq_eq_false_iff_ne.2 (by omega)
            have hj0 : 0 < j := by
              rcases Nat.eq_zero_or_pos j with h | h
              · subst h; exact absurd hxc (hstop x rfl)
              · exact h
            go_upto_region 5 with (fail)
            clear hhq hq d0 he hbq hgz hi3 hi2
            obtain ⟨g1, g2, g3, g4⟩ := HG.out m c j x t hmc hc16 hR hxc HT.out hstop
            have HA2 := Lib.hid (show AS wr ka sv1 (nsF f l ns c) by rw [g3]; exact HA.out)
            have HN2 := Lib.hid (show RowAt wr kn (ndc { nd with kids := padK (ksF f l ns c) c }) 88 by rw [g4]; exact HN.out)
            have HR2 := Lib.hid (show AR wr ka kn sv1 (.slice (some a) j cp) (l.filter (hasC c)) from by
              rw [← g1]
              refine ⟨RowE.take encP HR.out.1 (by rw [hlen.out]; first | exact hj | exact Nat.le_refl _), ?_⟩
              rcases HR.out.2 with h | h
              · cases h
              · exact .inr h)
            have HD2 := Lib.hid g2
            have HX2 := Lib.hid (HX.out.an HB.out e2 e3 e5)
            have F1 := Lib.hid (HF.out.ne HKN.out e4)
            have F2 := Lib.hid (HF.out.ne HX.out.lt e5)
            clear g1 g2 g3 g4 hstop HT HA HN
            go_upto_region 6 with (go_at_fn 131; (with_reducible refine (KS.out m c sv1 _ wr hc16 HA2.out HR2.out HN2.out HX2.out F1.out F2.out).mono ?_); rintro e w5 ⟨sv2, rfl, ha5, hn5, hb5, hf5⟩; have HA5 := Lib.hid ha5; have HN5 := Lib.hid hn5; have HB5 := Lib.hid hb5; have HF5 := Lib.hid hf5; clear ha5 hn5 hb5 hf5)
            have HAC := Lib.hid (show AS w5 ka sv2 (nsF f l ns (c + 1)) by rw [nsF_succ]; exact HA5.out)
            have HNC := Lib.hid (show RowAt w5 kn (ndc { nd with kids := padK (ksF f l ns (c + 1)) (c + 1) }) 88 by
              have h := HN5.out
              simp only [padK_set (ksF_len f l ns c) hc16] at h
              rw [ksF_succ]
              exact h)
            have HBC := Lib.hid (HB.out.trans HB5.out HF.out)
            have HFC := Lib.hid (HF.out.trans HF5.out HB.out.size)
            have HRX := Lib.hid (HR.out.step HB5.out HF5.out)
            clear HA2 HN2 HR2 HX2 HA5 HN5 HB HF HR HB5 HF5 F1 F2 KS HG HNIL
            have HRD := Lib.hid (show AR w5 ka kn sv2 (.slice (some (a.add (j * 2))) (n - j) (cp - j)) (restL (c + 1) l) from by
              rw [← HD2.out]
              refine ⟨RP.drop HRX.out.1 (by rw [hlen.out]; first | exact hj | exact Nat.le_refl _), ?_⟩
              rcases HRX.out.2 with h | h
              · cases h
              · exact .inr fun b e => h b (by
                  have hb : (a.add (j * 2)).block = a.block := by unfold Addr.add; split <;> rfl
                  simp only [Value.ownBlock, Option.some.injEq] at e ⊢
                  omega))
            have hcj : ¬ cp = j := by omega
            clear HRX HD2
            go_wp2
            exact ⟨⟨c + 1, sv2, by omega, HAC, HRD, HNC, HBC, HFC⟩, by simp [lenOf]; omega⟩
        · obtain rfl : n = j := by omega
          have hstop : ∀ q', (x :: t)[n]? = some q' → headN q' ≠ c + 1 := fun q' h => by
            rw [List.getElem?_eq_none (by rw [hlen.out]; omega)] at h
            cases h
          go_upto_region 5 with (fail)
          obtain ⟨g1, g2, g3, g4⟩ := HG.out m c n x t hmc hc16 hR hxc HT.out hstop
          have HA2 := Lib.hid (show AS wr ka sv1 (nsF f l ns c) by rw [g3]; exact HA.out)
          have HN2 := Lib.hid (show RowAt wr kn (ndc { nd with kids := padK (ksF f l ns c) c }) 88 by rw [g4]; exact HN.out)
          have HR2 := Lib.hid (show AR wr ka kn sv1 (.slice (some a) n cp) (l.filter (hasC c)) from by
            rw [← g1]
            refine ⟨RowE.take encP HR.out.1 (by rw [hlen.out]; first | exact hj | exact Nat.le_refl _), ?_⟩
            rcases HR.out.2 with h | h
            · cases h
            · exact .inr h)
          have HD2 := Lib.hid g2
          have HX2 := Lib.hid (HX.out.an HB.out e2 e3 e5)
          have F1 := Lib.hid (HF.out.ne HKN.out e4)
          have F2 := Lib.hid (HF.out.ne HX.out.lt e5)
          clear g1 g2 g3 g4 hstop HT HA HN
          go_upto_region 6 with (go_at_fn 131; (with_reducible refine (KS.out m c sv1 _ wr hc16 HA2.out HR2.out HN2.out HX2.out F1.out F2.out).mono ?_); rintro e w5 ⟨sv2, rfl, ha5, hn5, hb5, hf5⟩; have HA5 := Lib.hid ha5; have HN5 := Lib.hid hn5; have HB5 := Lib.hid hb5; have HF5 := Lib.hid hf5; clear ha5 hn5 hb5 hf5)
          have HAC := Lib.hid (show AS w5 ka sv2 (nsF f l ns (c + 1)) by rw [nsF_succ]; exact HA5.out)
          have HNC := Lib.hid (show RowAt w5 kn (ndc { nd with kids := padK (ksF f l ns (c + 1)) (c + 1) }) 88 by
            have h := HN5.out
            simp only [padK_set (ksF_len f l ns c) hc16] at h
            rw [ksF_succ]
            exact h)
          have HBC := Lib.hid (HB.out.trans HB5.out HF.out)
          have HFC := Lib.hid (HF.out.trans HF5.out HB.out.size)
          have HRX := Lib.hid (HR.out.step HB5.out HF5.out)
          clear HA2 HN2 HR2 HX2 HA5 HN5 HB HF HR HB5 HF5 F1 F2 KS HG HNIL
          have HRD := Lib.hid (show AR w5 ka kn sv2 (.slice (some (a.add (n * 2))) (n - n) (cp - n)) (restL (c + 1) l) from by
            rw [← HD2.out]
            refine ⟨RP.drop HRX.out.1 (by rw [hlen.out]; first | exact hj | exact Nat.le_refl _), ?_⟩
            rcases HRX.out.2 with h | h
            · cases h
            · exact .inr fun b e => h b (by
                have hb : (a.add (n * 2)).block = a.block := by unfold Addr.add; split <;> rfl
                simp only [Value.ownBlock, Option.some.injEq] at e ⊢
                omega))
          by_cases hcj : cp = n
          · have hre := Lib.hid (show restL (c + 1) l = [] by rw [← HD2.out]; exact List.drop_eq_nil_of_le (by rw [hlen.out]; exact Nat.le_refl _))
            subst hcj
            clear HRX HD2 HRD
            go_wp2
            refine ⟨⟨c + 1, sv2, by omega, HAC, ?_, HNC, HBC, HFC⟩, by simp [lenOf]; omega⟩
            rw [hre.out]
            exact Lib.hid ⟨RP.empty _ _ (by simp) _ (by unfold maxLen; omega), .inl rfl⟩
          · clear HRX HD2
            simp only [Nat.sub_self] at HRD
            go_wp2
            exact ⟨⟨c + 1, sv2, by omega, HAC, HRD, HNC, HBC, HFC⟩, by simp [lenOf]; omega⟩
end Go.Proofs.Ytefmlbckbhlgdaa

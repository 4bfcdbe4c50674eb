/- The trie: of, walked. The trie: what yields do: a pair more. The trie: pairs' function value, walked. The trie: walk, its first steps. The trie: walk at a joint, at a branch, at what is neither. The trie: walk at a branch. -/
import Derived.Test.YtefmlbckbhlgdaaTg5
import Derived.Test.YtefmlbckbhlgdaaTg9
namespace Go.Proofs.Ytefmlbckbhlgdaa
open Go.RowKit Go.Shelf
set_option maxRecDepth 100000
set_option maxHeartbeats 8000000 in
theorem trieOf_any (l : List Pr) (v : Value) (w : World) (h : RP w v l) (hs : sortP l) (hl : l.length ≤ 1000) (hz : ∀ p ∈ l, p.1.length ≤ 64) :
    Calls Try.prog 41 #[v] w fun e w' => ∃ u, e = .returned (.agg #[u, .int .i64 (ofT l).2]) ∧ RN w' u (ofT l).1 ∧ Below w.heap.size w w' := by
  obtain ⟨i0, hi, hz0, hz1, hz2⟩ := info_parts info_pr
  have KO := Lib.hid (fun (x : Pr) (hx : x.1.length ≤ 64) W => of_any (mkS x.1) W (by rw [mk_size]; omega))
  have hcl : (partsL l).length = l.length := List.length_map _
  have KB := Lib.hid (fun (ka : Nat) (v2 : Value) W (h1 : AS W ka (.slice none 0 0) []) (h2 : AR W ka ka (.slice none 0 0) v2 (partsL l)) => build_all 200 (by omega) (partsL l) [] ka (.slice none 0 0) v2 W (sortP_parts.2 hs) (halfP_parts l) (fun p hp => by
    obtain ⟨q, hq, rfl⟩ := List.mem_map.1 hp
    have := hz q hq
    show (ofL q.1).length < 200
    rw [ofL_length]; omega) (by rw [hcl]; exact hl) (by rw [hcl]; simp; omega) h1 h2)
  replace KB : Hid (∀ (ka : Nat) (v2 : Value) W, AS W ka (.slice none 0 0) [] → AR W ka ka (.slice none 0 0) v2 (partsL l) → Calls Try.prog 78 #[.pointer (some ⟨ka, 0, none⟩), v2] W (BuildAns ka (.slice none 0 0) (ofT l) W)) := KB
  obtain ⟨pv, cv, rfl, z1, z2⟩ := RowE.shape encP h
  have HR := Lib.hid h
  unfold maxLen at z2
  have HC := Lib.hid (fun (i : Nat) (x : Pr) (hx : l[i]? = some x) => show (partsL l)[i]? = some (ofL x.1, x.2) by unfold partsL; rw [List.getElem?_map, hx]; rfl)
  have HKE := Lib.hid (fun (i : Nat) (x : Pr) (hx : l[i]? = some x) => hz x (List.mem_of_getElem? hx))
  generalize ofT l = tr at *
  obtain ⟨ns, ix⟩ := tr
  generalize partsL l = L at *
  generalize hn : l.length = n at *
  replace hn := Lib.hid hn
  replace hcl := Lib.hid hcl
  clear h hs hz
  have R0 := Lib.hid (RowAt.new w #[.slice none 0 0, .int .i64 0] 37)
  have HBA := Lib.hid ((Below.refl w.heap.size w).alloc (Nat.le_refl _) (.cells #[.slice none 0 0, .int .i64 0] 37))
  go_enter Try.func41, Try.ntmps41
  go_upto_region 1 with (fail)
  generalize hw0 : w.alloc (.cells #[.slice none 0 0, .int .i64 0] 37) = w0 at *
  have hz0s := Lib.hid (show w0.heap.size = w.heap.size + 1 by rw [← hw0]; simp)
  clear hw0
  go_upto_region 2 with (at_make; (refine wpList_make_full _ rfl _ _ 34 rfl w0.heap.size 41 i0 _ 2 Try.underlying34 hi hz0 hz1 .i64 .i64 _ _ n rfl rfl rfl rfl (by rw [hz2]; omega) (by unfold maxLen; omega) (Nat.le_refl _) ?_); intro w1 hown hg)
  have O0 := Lib.hid (show OP w1 w0.heap.size (.slice (some ⟨w0.heap.size, 0, none⟩) n n) (fillP L 0) by
    have e : fillP L 0 = List.replicate n ([], []) := by unfold fillP; rw [List.take_zero, Nat.sub_zero, hcl.out]; rfl
    unfold OP OwnE
    rw [e, ← flat_made, List.length_replicate]
    exact hown)
  have HB0 := Lib.hid ((Below.refl w0.heap.size w0).grown hg (Nat.le_refl _) (fun k hk => by cases hk))
  clear hown hg hz0 hz1 hz2 hi i0
  go_upto_region 3 with (fail)
  go_loopw [13] (fun s wr => ∃ i : Nat, i ≤ n ∧ s = .int .i64 i ∧ Hid (OP wr w0.heap.size (.slice (some ⟨w0.heap.size, 0, none⟩) n n) (fillP L i)) ∧ Hid (Below w0.heap.size w0 wr)) (fun s _ => n - (intOf s).toNat)
  case atStart => exact ⟨0, Nat.zero_le _, rfl, O0, HB0⟩
  case round =>
    clear O0 HB0
    obtain ⟨i, hi, rfl, ho, hb⟩ := hrel
    have O := Lib.hid ho.out
    have HB := Lib.hid hb.out
    clear ho hb
    by_cases hlt : i < n
    · obtain ⟨x, hx⟩ : ∃ x, l[i]? = some x := ⟨_, List.getElem?_eq_getElem (by rw [hn.out]; exact hlt)⟩
      obtain ⟨a, rfl, c0, c1⟩ := RP.at (RP.below HR.out (HBA.out.trans (HB.out.mono HBA.out.size)) (Nat.le_refl _)) hx
      have hcx := Lib.hid (HC.out i x hx)
      have KC := Lib.hid (KO.out x (HKE.out i x hx))
      rw [ofB_mk] at KC
      obtain ⟨xk, xv⟩ := x
      simp only at c0 c1 KC
      have HA := prAlloc wr (xk, xv)
      have O1 := Lib.hid (O.out.below HA (Nat.le_refl _))
      have HB1 := Lib.hid (HB.out.trans (HA.mono HB.out.size))
      have R1 := Lib.hid (RowAt.new wr #[.string (mkS xk), .string (mkS xv)] 41)
      clear HA hx O HB
      go_upto_region 5 with (fail)
      clear c0 c1
      generalize wr.alloc (.cells #[.string (mkS xk), .string (mkS xv)] 41) = w1 at *
      generalize wr.heap.size = k1 at *
      obtain ⟨y0, y1⟩ := R1.out.drew.ic2
      have HD := Lib.hid (Below.refl w1.heap.size w1).drew
      (refine region_order [0, 1, 2, 3, 5, 6] [4, 7] 8 (LaterC w1.drew) mix ?hB ?hC ?_; case hB => kernel_rfl); (case hC => (exact Below.refl _ _)); (iterate 6 ((with_reducible refine xr_step ?_); (refine ⟨_, rfl, ?_⟩); intro K hK; go_simp; (with_reducible refine hK _ ?_); clear hK K)); (with_reducible refine xr_nil ?_); ((with_reducible refine xe_step ?_); (refine ⟨_, rfl, ?_⟩); intro K hK; unfold EX; go_simp; (go_at_call 77; (with_reducible refine (KC.out _).mono ?_); rintro e w2 ⟨rfl, hb⟩; refine ⟨_, rfl, hb, hK _ _ ?_⟩; clear hK K)); ((with_reducible refine xe_step ?_); (refine ⟨_, rfl, ?_⟩); intro K hK; unfold EX; go_simp; (refine ⟨hb, hK _ _ ?_⟩; clear hK K)); (with_reducible refine xe_nil ?_); (simp only [List.drop_succ_cons, List.drop_zero])
      have O2 := O1.out.below (HD.out.trans (hb.mono HD.out.size)) (Nat.le_refl _)
      have HB2 := HB1.out.trans ((HD.out.trans (hb.mono HD.out.size)).mono HB1.out.size)
      clear O1 HB1 y0 y1 R1 HD hb
      obtain ⟨g, eg, -, -, hcell, hfr, hset⟩ := OwnE.at (E := encP) O2 (fillP_at L i (by rw [hcl.out]; exact hlt))
      obtain rfl : w0.heap.size = g := by injection eg with eg; injection eg
      have m0 : w2.cell? ⟨w0.heap.size, i * 2, none⟩ = some (.string (mkS [])) := hcell 0 _ rfl
      have m1 : w2.cell? ⟨w0.heap.size, i * 2 + 1, none⟩ = some (.string (mkS [])) := hcell 1 _ rfl
      have f0 := hfr (i * 2)
      have f1 := hfr (i * 2 + 1)
      have O3 := Lib.hid (show OP ((w2.setCell ⟨w0.heap.size, i * 2, none⟩ (.string (mkS (ofL xk)))).setCell ⟨w0.heap.size, i * 2 + 1, none⟩ (.string (mkS xv))) w0.heap.size (.slice (some ⟨w0.heap.size, 0, none⟩) n n) (fillP L (i + 1)) by
        rw [← fillP_set L i _ hcx.out]
        exact hset (ofL xk, xv) w2 (fun C h => h))
      have HB3 := Lib.hid ((HB2.setCell (p := ⟨w0.heap.size, i * 2, none⟩) (Nat.le_refl _) (.string (mkS (ofL xk)))).setCell (p := ⟨w0.heap.size, i * 2 + 1, none⟩) (Nat.le_refl _) (.string (mkS xv)))
      clear hcell hfr hset eg O2 HB2
      go_wp2
      exact ⟨⟨i + 1, by omega, by simp, O3, HB3⟩, by simp [intOf]; omega⟩
    · obtain rfl : i = n := by omega
      have HRP := Lib.hid (OwnE.row encP O.out)
      have ef : fillP L i = L := by rw [← hcl.out]; exact fillP_all L
      rw [ef] at HRP
      have R1 := Lib.hid ((R0.out.belowS HB.out).alloc (.cells #[.slice none 0 0] 132))
      have HBW := Lib.hid ((HBA.out.trans (HB.out.mono HBA.out.size)).alloc (HBA.out.trans (HB.out.mono HBA.out.size)).size (.cells #[.slice none 0 0] 132))
      have HS := Lib.hid (show AS (wr.alloc (.cells #[.slice none 0 0] 132)) wr.heap.size (.slice none 0 0) [] from ⟨RowAt.new _ _ _, OwnE.nil encN _ _ _⟩)
      have HAR := Lib.hid (show AR (wr.alloc (.cells #[.slice none 0 0] 132)) wr.heap.size wr.heap.size (.slice none 0 0) (.slice (some ⟨w0.heap.size, 0, none⟩) i i) L from by
        refine ⟨RP.below HRP.out ((Below.refl wr.heap.size wr).alloc (Nat.le_refl _) _) (Nat.le_refl _), ?_⟩
        by_cases hL : L = []
        · exact .inl hL
        · refine .inr fun b e => ?_
          have := RP.blk HRP.out hL b e
          exact ⟨by omega, by omega, by simp [Value.ownBlock]⟩)
      have HK0 := Lib.hid (show w.heap.size < wr.heap.size from by have := R0.out.lt; have := HB.out.size; omega)
      clear O HB HRP HBA R0 KO
      go_upto_region 9 with (go_at_call 78; (with_reducible refine (KB.out _ _ _ HS.out HAR.out).mono ?_); rintro e w6 ⟨sv6, rfl, ha6, hk6, hf6⟩)
      have R6 := Lib.hid (R1.out.ak hk6 (by have := HK0.out; omega) (by simp [Value.ownBlock]))
      have HBF := Lib.hid (hk6.below HBW.out HBW.out.size (Nat.le_of_lt HK0.out) (fun g e => by simp [Value.ownBlock] at e))
      have HON := Lib.hid ha6.2
      have HAR6 := Lib.hid ha6.1
      have HAP := Lib.hid (show Apart sv6 ns w.heap.size from .inr fun e => by have := (ha6.own _ e).1; have := HK0.out; omega)
      clear ha6 hk6 hf6 R1 HBW HS HAR KB
      obtain ⟨p6, c6, rfl, z5, z6⟩ := RowE.shape encN (OwnE.row encN HON.out)
      have cA : w6.cell? ⟨wr.heap.size, 0, none⟩ = some (.slice p6 ns.length c6) := HAR6.out.cell 0
      obtain ⟨y0, y1, yf0, yf1⟩ := R6.out.c2
      have R7 := R6.out.set 0 (.slice p6 ns.length c6) (cs' := #[.slice p6 ns.length c6, .int .i64 0]) rfl
      obtain ⟨m0, m1, -, -⟩ := (R7.set 1 (.int .i64 ix) (cs' := #[.slice p6 ns.length c6, .int .i64 ix]) rfl).c2
      clear R7
      have HB1 := Lib.hid ((HBF.out.setCell (p := ⟨w.heap.size, 0, none⟩) (Nat.le_refl _) (.slice p6 ns.length c6)).setCell (p := ⟨w.heap.size, 1, none⟩) (Nat.le_refl _) (.int .i64 ix))
      have H4 := Lib.hid ((RN.set (OwnE.row encN HON.out) HAP.out 0 (.slice p6 ns.length c6)).set HAP.out 1 (.int .i64 ix))
      go_wp2
      refine bodyPost_ret (v := .agg #[.slice p6 ns.length c6, .int .i64 ix]) (by simp [results, Try.results41, go_sem, m0, m1]) rfl ?_
      exact ⟨_, rfl, H4.out, HB1.out⟩
end Go.Proofs.Ytefmlbckbhlgdaa
namespace Go.Proofs.Ytefmlbckbhlgdaa
open Go.RowKit Go.Shelf
set_option maxRecDepth 100000
set_option maxHeartbeats 2000000 in
theorem key_yesW (s : ByteArray) (w : World) (hs : s.size ≤ 281474976710656) (h : rightB s = true) (hp : s.size % 2 = 0) :
    Calls Try.prog 70 #[.string s] w fun e w' => e = .returned (.tuple #[.string (joinB s), .int .i64 0]) ∧ Below w.heap.size w w' := by
  have HR := Lib.hid h
  have e1 : ((s.size : Int) % 2) = 0 := by omega
  clear h hp
  go_enter Try.func70, Try.ntmps70
  go_wp2_with (first
    | (go_at_call 121; refine (right_yes _ _ (by omega) HR.out).mono ?_; rintro e w1 ⟨rfl, rfl⟩)
    | (go_at_call 122; refine (join_any _ _ (by omega) (by omega)).mono ?_; rintro e w1 ⟨rfl, hb1⟩))
  go_ret2
  exact ⟨rfl, hb1⟩

set_option maxHeartbeats 2000000 in
theorem key_noW (s : ByteArray) (w : World) (hs : s.size ≤ 281474976710656) (h : rightB s = false ∨ (rightB s = true ∧ s.size % 2 = 1)) :
    Calls Try.prog 70 #[.string s] w fun e w' => e = .returned (.tuple #[.string ⟨#[]⟩, .int .i64 1]) ∧ Below w.heap.size w w' := by
  rcases h with h | ⟨h, hp⟩
  · have HR := Lib.hid h
    clear h
    go_enter Try.func70, Try.ntmps70
    go_wp2_with (first
      | (go_at_call 121; refine (right_no _ _ (by omega) HR.out).mono ?_; rintro e w1 ⟨rfl, rfl⟩))
    go_ret2
    exact ⟨rfl, Below.refl _ _⟩
  · have HR := Lib.hid h
    have e1 : ((s.size : Int) % 2) = 1 := by omega
    clear h hp
    go_enter Try.func70, Try.ntmps70
    go_wp2_with (first
      | (go_at_call 121; refine (right_yes _ _ (by omega) HR.out).mono ?_; rintro e w1 ⟨rfl, rfl⟩))
    go_ret2
    exact ⟨rfl, Below.refl _ _⟩

def partOk (p : List UInt8) : Bool := p.all (· < 16) && p.length % 2 == 0
theorem rightB_mk (p : List UInt8) : rightB (mkS p) = p.all (· < 16) := by
  unfold rightB
  show (bl (mkS p)).all _ = _
  rw [bl_mk]
theorem joinB_mk (p : List UInt8) : joinB (mkS p) = mkS (joinL p) := by
  unfold joinB
  show mkS (joinL (bl (mkS p))) = _
  rw [bl_mk]
theorem key_any (p : List UInt8) (w : World) (hs : p.length ≤ 281474976710656) :
    Calls Try.prog 70 #[.string (mkS p)] w fun e w' => e = .returned (.tuple #[.string (mkS (keyP p)), .int .i64 (if partOk p then 0 else 1)]) ∧ Below w.heap.size w w' := by
  by_cases h1 : p.all (· < 16) = true
  · by_cases h2 : p.length % 2 = 0
    · have := key_yesW (mkS p) w (by rw [mk_size]; exact hs) (by rw [rightB_mk]; exact h1) (by rw [mk_size]; exact h2)
      unfold keyP partOk
      rw [h1, h2]
      rw [joinB_mk] at this
      exact this
    · have := key_noW (mkS p) w (by rw [mk_size]; exact hs) (.inr ⟨by rw [rightB_mk]; exact h1, by rw [mk_size]; omega⟩)
      have e : (p.length % 2 == 0) = false := by simpa using h2
      unfold keyP partOk
      rw [h1, e]
      exact this
  · have h1' : p.all (· < 16) = false := by simpa using h1
    have := key_noW (mkS p) w (by rw [mk_size]; exact hs) (.inl (by rw [rightB_mk]; exact h1'))
    unfold keyP partOk
    rw [h1']
    exact this
end Go.Proofs.Ytefmlbckbhlgdaa
namespace Go.Proofs.Ytefmlbckbhlgdaa
open Go.RowKit Go.Shelf
set_option maxRecDepth 100000
theorem wpList_append_onePr {ops : Array Oper} {rest : List Oper} {o : Oper} {a : Act} {Q : Exit → Act → World → Prop} {w : World} (hgd : o.guard = Option.none) (s x : Operand)
    (ho : o.op = .call { callee := .builtin .append, args := #[s, x], argTypes := #[34, 34] }) (base : Nat) (v : Value) (l : List Pr) (hs : a.eval s = v) (hown : OP w base v l)
    (k : Nat) (y : Pr) (hx : a.eval x = .slice (some ⟨k, 0, none⟩) 1 1) (hc : RowAt w k #[.string (mkS y.1), .string (mkS y.2)] 41) (hb : l.length ≤ 600000) (hbase : base ≤ w.heap.size)
    (h : ∀ v' w', OP w' base v' (l ++ [y]) → w.grownBy w' v.ownBlock → (∀ g, v'.ownBlock = some g → v.ownBlock = some g ∨ w.heap.size ≤ g) → wpList Try.prog ops Q rest (a.put o.dst v') w') : wpList Try.prog ops Q (o :: rest) a w := by
  obtain ⟨v', w', hr, h1, h2, h3⟩ := run_append_oneE encP Try.underlying34 info_pr rfl w o.type base v l hown ⟨k, 0, none⟩ y (fun j u hj => by
    have hadd : (⟨k, 0, none⟩ : Addr).add j = ⟨k, j, none⟩ := by unfold Addr.add; split <;> simp_all
    rw [hadd, hc.cell]
    simpa [encP] using hj) (by unfold maxLen; omega) (by omega) hbase
  refine wpList_plain hgd fun _ hK => ?_
  unfold Oper.wp execOp
  simp only [ho, resolve, invoke, builtin, Sem.run_bind, Sem.run_pure, Result.andThen_ok, List.map_toArray, List.map_cons, List.map_nil, hs, hx, hr]
  exact hK _ _ (h v' w' h1 h2 h3)

/-- The row of pairs that the walk fills. -/
def OS (w : World) (ko : Nat) (sv : Value) (out : List Pr) : Prop := RowAt w ko #[sv] 34 ∧ OP w (ko + 1) sv out
theorem OS.row {w : World} {ko : Nat} {sv : Value} {out : List Pr} (h : OS w ko sv out) : RowAt w ko #[sv] 34 := h.1
theorem OS.op {w : World} {ko : Nat} {sv : Value} {out : List Pr} (h : OS w ko sv out) : OP w (ko + 1) sv out := h.2
theorem OS.below {w w' : World} {ko : Nat} {sv : Value} {out : List Pr} (h : OS w ko sv out) (hb : Below w.heap.size w w') : OS w' ko sv out := ⟨h.1.belowS hb, h.2.below hb (Nat.le_refl _)⟩
theorem OS.own {w : World} {ko : Nat} {sv : Value} {out : List Pr} (h : OS w ko sv out) : ∀ g, sv.ownBlock = some g → ko + 1 ≤ g ∧ g < w.heap.size := fun g e => World.ownsRow.lt h.2 g e
/-- What a call that fills the row answers. -/
def FillAns (ko : Nat) (sv : Value) (r : List Pr × Bool) (w : World) (e : Ending) (w' : World) : Prop := ∃ sv', e = .returned (.bool r.2) ∧ OS w' ko sv' r.1 ∧ AK ko sv.ownBlock w w' ∧ Fr w sv sv'

theorem yield_ok (out : List Pr) (p v : List UInt8) : (yieldL out p v).2 = (partOk p && (mayP (keyP p, v) && decide (out.length + 1 ≤ 64))) := by
  unfold yieldL okP partOk mayP keyP
  cases h : (p.all (· < 16) && p.length % 2 == 0)
  · simp
  · simp

set_option maxHeartbeats 8000000 in
theorem yield_any (p v : List UInt8) (out : List Pr) (ko : Nat) (sv : Value) (w : World) (hs : OS w ko sv out) (hp : p.length ≤ 281474976710656) (ho : out.length ≤ 64) :
    Calls Try.prog 69 #[.string (mkS p), .string (mkS v), .pointer (some ⟨ko, 0, none⟩)] w (FillAns ko sv (yieldL out p v) w) := by
  have KK := Lib.hid (fun W => key_any p W hp)
  have KM := Lib.hid (fun W => may_any (keyP p) v W)
  have HY := Lib.hid (yield_ok out p v)
  have HO1 := Lib.hid (show (yieldL out p v).1 = out ++ [(keyP p, v)] from rfl)
  generalize yieldL out p v = r at *
  obtain ⟨r1, r2⟩ := r
  simp only at HY HO1
  have hr1 := HO1.out
  subst hr1
  clear HO1
  generalize keyP p = kp at *
  generalize mayP (kp, v) = mb at *
  obtain ⟨q, c, rfl, z1, z2⟩ := OP.shape hs.2
  unfold maxLen at z2
  have HS := Lib.hid hs
  clear hs
  cases hb : partOk p
  all_goals
    rw [hb] at HY KK
    simp only [Bool.false_eq_true, if_false, if_true, Bool.true_and, Bool.false_and] at HY KK
    go_enter Try.func69, Try.ntmps69
    go_upto_region 2 with (go_at_call 70; (with_reducible refine (KK.out _).mono ?_); rintro e w1 ⟨rfl, hb1⟩; have HB := Lib.hid hb1; clear hb1)
    have c0 : w1.cell? ⟨ko, 0, none⟩ = some (.slice q out.length c) := (HS.out.1.belowS HB.out).cell 0
    have O2 := Lib.hid ((HS.out.below HB.out).op.below (prAlloc w1 (kp, v)) (Nat.le_refl _))
    have R2 := Lib.hid ((HS.out.1.belowS HB.out).alloc (prO (kp, v)))
    have HK2 := Lib.hid (Nat.le_trans HS.out.1.lt (Nat.le_trans HB.out.size (prAlloc w1 (kp, v)).size))
    have AK2 := Lib.hid (AK.ofBelow (ka := ko) (r := (Value.slice q out.length c).ownBlock) (HB.out.trans ((prAlloc w1 (kp, v)).mono HB.out.size)))
    have HOWN := Lib.hid (HS.out.own)
    go_upto_region 3 with (at_builtin; refine wpList_append_onePr rfl _ _ rfl (ko + 1) _ out rfl O2.out w1.heap.size (kp, v) rfl (RowAt.new w1 _ _) (by omega) HK2.out ?_; intro v3 w3 ho3 hg3 hn3; have O3 := Lib.hid (show OP w3 (ko + 1) v3 (out ++ [(kp, v)]) from ho3); have R3 := Lib.hid (R2.out.grown hg3 (fun e => by have := (HOWN.out ko e.symm).1; omega)); have AK3 := Lib.hid (AK2.out.trans (AK.ofGrown (ka := ko) hg3) (fun g e => .inl e)); have HN := Lib.hid (show Fr w (Value.slice q out.length c) v3 from fun g e => (hn3 g e).imp id (fun h => Nat.le_trans AK2.out.size h)); clear ho3 hg3 hn3 O2 R2 AK2 c0; obtain ⟨q3, c3, rfl, z3, z4⟩ := OP.shape O3.out; have c0 : w3.cell? ⟨ko, 0, none⟩ = some (.slice q out.length c) := R3.out.cell 0; have f0 := R3.out.frozen 0)
    simp only [List.length_append, List.length_singleton] at *
    have R4 := Lib.hid (R3.out.set 0 (.slice q3 (out.length + 1) c3) (cs' := #[.slice q3 (out.length + 1) c3]) rfl)
    have AK4 := Lib.hid (AK3.out.same (AK.set 0 (.slice q3 (out.length + 1) c3)))
    have O4 := Lib.hid (show OP (w3.setCell ⟨ko, 0, none⟩ (.slice q3 (out.length + 1) c3)) (ko + 1) (.slice q3 (out.length + 1) c3) (out ++ [(kp, v)]) from ownsRow_setCell_below O3.out (by simp) _)
    clear R3 AK3 O3 c0 f0
    generalize w3.setCell ⟨ko, 0, none⟩ (.slice q3 (out.length + 1) c3) = w4 at *
    have c0 : w4.cell? ⟨ko, 0, none⟩ = some (.slice q3 (out.length + 1) c3) := R4.out.cell 0
    unfold maxLen at z4
  · have hr := HY.out
    go_wp2
    go_ret
    exact ⟨_, by rw [hr]; rfl, ⟨R4.out, O4.out⟩, AK4.out, HN.out⟩
  · cases mb
    · have hr := HY.out
      go_wp2_with (go_at_call 39; (with_reducible refine (KM.out _).mono ?_); rintro e w5 ⟨rfl, rfl⟩)
      go_ret
      exact ⟨_, by rw [hr]; rfl, ⟨R4.out, O4.out⟩, AK4.out, HN.out⟩
    · by_cases h64 : out.length + 1 ≤ 64
      · have hr := HY.out
        rw [decide_eq_true h64] at hr
        have h64i : (out.length : Int) + 1 ≤ 64 := by omega
        clear h64
        go_wp2_with (go_at_call 39; (with_reducible refine (KM.out _).mono ?_); rintro e w5 ⟨rfl, rfl⟩)
        go_ret
        exact ⟨_, by rw [hr]; rfl, ⟨R4.out, O4.out⟩, AK4.out, HN.out⟩
      · have hr := HY.out
        rw [decide_eq_false h64] at hr
        have h64i : decide ((out.length : Int) + 1 ≤ 64) = false := decide_eq_false (by omega)
        clear h64
        go_wp2_with (go_at_call 39; (with_reducible refine (KM.out _).mono ?_); rintro e w5 ⟨rfl, rfl⟩)
        go_ret
        exact ⟨_, by rw [hr]; rfl, ⟨R4.out, O4.out⟩, AK4.out, HN.out⟩
end Go.Proofs.Ytefmlbckbhlgdaa
namespace Go.Proofs.Ytefmlbckbhlgdaa
open Go.RowKit Go.Shelf
set_option maxRecDepth 100000
/-- The row of nodes lies apart from the row that is filled. -/
def ARN (w : World) (ko : Nat) (sv u : Value) (ns : List Nd) : Prop := RN w u ns ∧ (ns = [] ∨ ∀ b, u.ownBlock = some b → b ≠ ko ∧ sv.ownBlock ≠ some b)
theorem RN.blk {w : World} {v : Value} {l : List Nd} (h : RN w v l) (hl : l ≠ []) : ∀ b, v.ownBlock = some b → b < w.heap.size := fun b e => by
  rcases h with ⟨_, h⟩ | ⟨a, cap, rfl, h1, h2, hc⟩
  · exact absurd h hl
  · cases l with
    | nil => exact absurd rfl hl
    | cons p l =>
      have h0 := block_lt_of_cell (hc 0 (.int .i64 p.kind) rfl)
      have hb : (a.add 0).block = a.block := by rw [Addr.add_zero']
      simp only [Value.ownBlock, Option.some.injEq] at e
      omega
theorem RN.keep {w w' : World} {v : Value} {l : List Nd} (h : RN w v l) (hk : l ≠ [] → ∀ b, v.ownBlock = some b → w'.heap[b]? = w.heap[b]?) : RN w' v l := by
  rcases h with h | ⟨a, cap, rfl, h1, h2, hc⟩
  · exact .inl h
  · refine .inr ⟨a, cap, rfl, h1, h2, fun j u hj => ?_⟩
    have hl : l ≠ [] := fun e => by subst e; simp [flat] at hj
    have hb : (a.add j).block = a.block := by unfold Addr.add; split <;> rfl
    exact (World.cell?_of_block (w := w) (w' := w') (a := a.add j) (by rw [hb]; exact hk hl a.block rfl)).trans (hc j u hj)
theorem ARN.rn {w : World} {ko : Nat} {sv u : Value} {ns : List Nd} (h : ARN w ko sv u ns) : RN w u ns := h.1
theorem ARN.below {w w' : World} {ko : Nat} {sv u : Value} {ns : List Nd} (h : ARN w ko sv u ns) (hb : Below w.heap.size w w') : ARN w' ko sv u ns := ⟨RN.below h.1 hb (Nat.le_refl _), h.2⟩
theorem ARN.step {w w' : World} {ko : Nat} {sv sv' u : Value} {ns : List Nd} (h : ARN w ko sv u ns) (ha : AK ko sv.ownBlock w w') (hf : Fr w sv sv') : ARN w' ko sv' u ns := by
  obtain ⟨h1, h2⟩ := h
  refine ⟨h1.keep fun hl b e => ?_, ?_⟩
  · rcases h2 with h2 | h2
    · exact absurd h2 hl
    · obtain ⟨x1, x3⟩ := h2 b e
      exact ha.block b (h1.blk hl b e) x1 (fun e => x3 e.symm)
  · by_cases hl : ns = []
    · exact .inl hl
    · rcases h2 with h2 | h2
      · exact .inl h2
      · exact .inr fun b e => ⟨(h2 b e).1, hf.ne (h1.blk hl b e) (h2 b e).2⟩
abbrev fnY (ko : Nat) : Value := .func (.func 69) #[] #[.pointer (some ⟨ko, 0, none⟩)]
def WalkC (ns : List Nd) (f : Nat) : Prop := ∀ (ko : Nat) (u : Value) (r i : Int) (part : List UInt8) (out : List Pr) (sv : Value) (w : World), OS w ko sv out → ARN w ko sv u ns → i < f → part.length ≤ 281474976710656 → out.length ≤ 64 →
  Calls Try.prog 68 #[.agg #[u, .int .i64 r], .int .i64 i, .string (mkS part), fnY ko] w (FillAns ko sv (walkF ns f i part out) w)
theorem FillAns.of {w W w' : World} {ko : Nat} {sv : Value} {r : List Pr × Bool} {e : Ending} (hb : Below w.heap.size w W) (h : FillAns ko sv r W e w') : FillAns ko sv r w e w' := by
  obtain ⟨sv', h1, h2, h3, h4⟩ := h
  exact ⟨sv', h1, h2, (AK.ofBelow hb).same h3, fun g e => (h4 g e).imp id (fun h => Nat.le_trans hb.size h)⟩
theorem FillAns.no {w w' : World} {ko : Nat} {sv : Value} {out : List Pr} (hs : OS w ko sv out) (hb : Below w.heap.size w w') : FillAns ko sv (out, false) w (.returned (.bool false)) w' :=
  ⟨sv, rfl, hs.below hb, AK.ofBelow hb, Fr.refl _ _⟩
theorem mkS_append (a b : List UInt8) : mkS a ++ mkS b = mkS (a ++ b) := by
  apply bl_inj
  rw [bl_append, bl_mk, bl_mk, bl_mk]

/-- A walk that refuses at once. -/
theorem walk_no1 (ns : List Nd) (ko : Nat) (u : Value) (r i : Int) (part : List UInt8) (out : List Pr) (sv : Value) (w : World) (hs : OS w ko sv out) (hr : ARN w ko sv u ns) (_hp : part.length ≤ 281474976710656) (hi : i < 0) :
    Calls Try.prog 68 #[.agg #[u, .int .i64 r], .int .i64 i, .string (mkS part), fnY ko] w (FillAns ko sv (out, false) w) := by
  obtain ⟨p, c, rfl, z1, z2⟩ := RowE.shape encN hr.1
  have HB := Lib.hid ((Below.refl w.heap.size w).alloc (Nat.le_refl _) (.cells #[.slice p ns.length c, .int .i64 r] 37))
  have HS := Lib.hid hs
  clear hs hr
  go_enter Try.func68, Try.ntmps68
  go_wp2
  go_ret
  exact FillAns.no HS.out HB.out
theorem walk_no2 (ns : List Nd) (ko : Nat) (u : Value) (r : Int) (i : Nat) (part : List UInt8) (out : List Pr) (sv : Value) (w : World) (hs : OS w ko sv out) (hr : ARN w ko sv u ns) (_hp : part.length ≤ 281474976710656) (hi : ns.length ≤ i) (hi2 : i ≤ 9223372036854775807) :
    Calls Try.prog 68 #[.agg #[u, .int .i64 r], .int .i64 i, .string (mkS part), fnY ko] w (FillAns ko sv (out, false) w) := by
  obtain ⟨p, c, rfl, z1, z2⟩ := RowE.shape encN hr.1
  have HB := Lib.hid ((Below.refl w.heap.size w).alloc (Nat.le_refl _) (.cells #[.slice p ns.length c, .int .i64 r] 37))
  have HS := Lib.hid hs
  have R1 := (RowAt.new w #[.slice p ns.length c, .int .i64 r] 37).c2.1
  have g1 : ¬ (i : Int) < 0 := by omega
  have g2 : (ns.length : Int) ≤ i := by omega
  clear hs hr
  go_enter Try.func68, Try.ntmps68
  go_wp2
  go_ret
  exact FillAns.no HS.out HB.out
theorem walk_no3 (ns : List Nd) (ko : Nat) (u : Value) (r : Int) (i : Nat) (part : List UInt8) (out : List Pr) (sv : Value) (w : World) (hs : OS w ko sv out) (hr : ARN w ko sv u ns) (hp : part.length ≤ 281474976710656) (hi : i < ns.length) (hpl : 64 < part.length) :
    Calls Try.prog 68 #[.agg #[u, .int .i64 r], .int .i64 i, .string (mkS part), fnY ko] w (FillAns ko sv (out, false) w) := by
  obtain ⟨p, c, rfl, z1, z2⟩ := RowE.shape encN hr.1
  have HB := Lib.hid ((Below.refl w.heap.size w).alloc (Nat.le_refl _) (.cells #[.slice p ns.length c, .int .i64 r] 37))
  have HS := Lib.hid hs
  have R1 := (RowAt.new w #[.slice p ns.length c, .int .i64 r] 37).c2.1
  have g1 : ¬ (i : Int) < 0 := by omega
  have g2 : decide (ns.length ≤ i) = false := decide_eq_false (by omega)
  have hsz := mk_size part
  have g3 : decide ((64 : Int) < part.length) = true := decide_eq_true (by omega)
  clear hs hr hi
  go_enter Try.func68, Try.ntmps68
  go_wp2
  go_ret
  exact FillAns.no HS.out HB.out

set_option maxHeartbeats 8000000 in
theorem walk_leaf (ns : List Nd) (ko : Nat) (u : Value) (r : Int) (i : Nat) (n : Nd) (part : List UInt8) (out : List Pr) (sv : Value) (w : World) (hs : OS w ko sv out) (hr : ARN w ko sv u ns) (hp : part.length ≤ 64) (hn : ns[i]? = some n) (hk : n.kind = 1) (hpn : n.part.length ≤ 140737488351232) (ho : out.length ≤ 64) :
    Calls Try.prog 68 #[.agg #[u, .int .i64 r], .int .i64 i, .string (mkS part), fnY ko] w (FillAns ko sv (yieldL out (part ++ n.part) n.value) w) := by
  have eg : ∀ args w, (callFunc 69 args).run Try.prog w = .ok (.enter 69 args) w := fun args w => by kernel_rfl
  have hi : i < ns.length := (List.getElem?_eq_some_iff.1 hn).1
  obtain ⟨p, c, rfl, z1, z2⟩ := RowE.shape encN hr.1
  have HB := Lib.hid ((Below.refl w.heap.size w).alloc (Nat.le_refl _) (.cells #[.slice p ns.length c, .int .i64 r] 37))
  have HS := Lib.hid hs
  have HR := Lib.hid hr
  have RB := Lib.hid (RowAt.new w #[.slice p ns.length c, .int .i64 r] 37)
  have R1 := RB.out.c2.1
  have g1 : ¬ (i : Int) < 0 := by omega
  have g2 : decide (ns.length ≤ i) = false := decide_eq_false (by omega)
  have hsz := mk_size part
  have g3 : decide ((64 : Int) < part.length) = false := decide_eq_false (by omega)
  have hil : (i : Int) < ns.length := by omega
  have KY := Lib.hid (fun W (h : OS W ko sv out) => yield_any (part ++ n.part) n.value out ko sv W h (by rw [List.length_append]; omega) ho)
  have hap := mkS_append part n.part
  have hszn := mk_size n.part
  obtain ⟨a, rfl, hnd⟩ := NdAt.ofRowE (RN.below HR.out.1 HB.out (Nat.le_refl _)) hn
  have HN := Lib.hid hnd
  clear hs hr hn hnd
  go_enter Try.func68, Try.ntmps68
  go_upto_region 4 with (first
    | (refine wpList_load_nd rfl _ rfl _ n rfl HN.out ?_)
    | (refine wpList_store_nd rfl _ _ rfl (w.heap.size + 1) n rfl rfl _ (RowAt.new' _ _ _ (by simp)) rfl ?_; intro w3 hr3 hb3 ho3 hs3; have R := Lib.hid hr3; replace HB := Lib.hid (hb3 w.heap.size w (HB.out.alloc HB.out.size _) (Nat.le_succ _)); clear hr3 hb3 ho3 hs3))
  have HS3 := Lib.hid (HS.out.below HB.out)
  obtain ⟨c0, c1, c2, -⟩ := R.out.nd
  rw [hk] at c0
  clear R1 RB HN HR HS
  go_wp2_with (go_at_fn 69; (with_reducible refine (KY.out w3 HS3.out).mono ?_); rintro e w4 ⟨sv4, rfl, hs4, hk4, hf4⟩)
  go_ret
  exact FillAns.of HB.out ⟨sv4, rfl, hs4, hk4, hf4⟩
end Go.Proofs.Ytefmlbckbhlgdaa
namespace Go.Proofs.Ytefmlbckbhlgdaa
open Go.RowKit Go.Shelf
set_option maxRecDepth 100000
set_option maxHeartbeats 8000000 in
theorem walk_else (ns : List Nd) (ko : Nat) (u : Value) (r : Int) (i : Nat) (n : Nd) (part : List UInt8) (out : List Pr) (sv : Value) (w : World) (hs : OS w ko sv out) (hr : ARN w ko sv u ns) (hp : part.length ≤ 64) (hn : ns[i]? = some n) (k1 : n.kind ≠ 1) (k2 : n.kind ≠ 2) (k3 : n.kind ≠ 3) : Calls Try.prog 68 #[.agg #[u, .int .i64 r], .int .i64 i, .string (mkS part), fnY ko] w (FillAns ko sv (out, false) w) := by
  have HS0 := Lib.hid hs
  have hi : i < ns.length := (List.getElem?_eq_some_iff.1 hn).1
  obtain ⟨p, c, rfl, z1, z2⟩ := RowE.shape encN hr.1
  have HB := Lib.hid ((Below.refl w.heap.size w).alloc (Nat.le_refl _) (.cells #[.slice p ns.length c, .int .i64 r] 37))
  have HS := Lib.hid hs
  have HR := Lib.hid hr
  have RB := Lib.hid (RowAt.new w #[.slice p ns.length c, .int .i64 r] 37)
  have R1 := RB.out.c2.1
  have g1 : ¬ (i : Int) < 0 := by omega
  have g2 : decide (ns.length ≤ i) = false := decide_eq_false (by omega)
  have hsz := mk_size part
  have g3 : decide ((64 : Int) < part.length) = false := decide_eq_false (by omega)
  have hil : (i : Int) < ns.length := by omega
  obtain ⟨a, rfl, hnd⟩ := NdAt.ofRowE (RN.below HR.out.1 HB.out (Nat.le_refl _)) hn
  have HN := Lib.hid hnd
  clear hs hr hn hnd
  go_enter Try.func68, Try.ntmps68
  go_upto_region 4 with (first
    | (refine wpList_load_nd rfl _ rfl _ n rfl HN.out ?_)
    | (refine wpList_store_nd rfl _ _ rfl (w.heap.size + 1) n rfl rfl _ (RowAt.new' _ _ _ (by simp)) rfl ?_; intro w3 hr3 hb3 ho3 hs3; have R := Lib.hid hr3; replace RB := Lib.hid (show RowAt w3 w.heap.size _ _ from (ho3 _ (by omega)).trans (RB.out.alloc _)); replace HB := Lib.hid (hb3 w.heap.size w (HB.out.alloc HB.out.size _) (Nat.le_succ _)); clear hr3 hb3 ho3 hs3))
  have HS3 := Lib.hid (HS.out.below HB.out)
  have HR3 := Lib.hid (HR.out.below HB.out)
  obtain ⟨c0, c1, c2, -⟩ := R.out.nd
  clear R1 HN HR HS
  go_wp2
  go_ret
  exact FillAns.no HS0.out HB.out

set_option maxHeartbeats 8000000 in
theorem walk_joint (ns : List Nd) (ko : Nat) (u : Value) (r : Int) (i : Nat) (n : Nd) (part : List UInt8) (out : List Pr) (sv : Value) (w : World) (hs : OS w ko sv out) (hr : ARN w ko sv u ns) (hp : part.length ≤ 64) (hn : ns[i]? = some n) (hk : n.kind = 2) (hpn : n.part.length ≤ 140737488351232) (R9 : List Pr × Bool) (hlt : n.kids.getD 0 0 < i)
    (KW : ∀ u W, OS W ko sv out → ARN W ko sv u ns → Calls Try.prog 68 #[.agg #[u, .int .i64 r], .int .i64 (n.kids.getD 0 0), .string (mkS (part ++ n.part)), fnY ko] W (FillAns ko sv R9 W)) : Calls Try.prog 68 #[.agg #[u, .int .i64 r], .int .i64 i, .string (mkS part), fnY ko] w (FillAns ko sv R9 w) := by
  have hap := mkS_append part n.part
  have hszn := mk_size n.part
  generalize hkz : n.kids.getD 0 0 = k0 at *
  replace hkz := Lib.hid hkz
  replace KW := Lib.hid KW
  have hi : i < ns.length := (List.getElem?_eq_some_iff.1 hn).1
  obtain ⟨p, c, rfl, z1, z2⟩ := RowE.shape encN hr.1
  have HB := Lib.hid ((Below.refl w.heap.size w).alloc (Nat.le_refl _) (.cells #[.slice p ns.length c, .int .i64 r] 37))
  have HS := Lib.hid hs
  have HR := Lib.hid hr
  have RB := Lib.hid (RowAt.new w #[.slice p ns.length c, .int .i64 r] 37)
  have R1 := RB.out.c2.1
  have g1 : ¬ (i : Int) < 0 := by omega
  have g2 : decide (ns.length ≤ i) = false := decide_eq_false (by omega)
  have hsz := mk_size part
  have g3 : decide ((64 : Int) < part.length) = false := decide_eq_false (by omega)
  have hil : (i : Int) < ns.length := by omega
  obtain ⟨a, rfl, hnd⟩ := NdAt.ofRowE (RN.below HR.out.1 HB.out (Nat.le_refl _)) hn
  have HN := Lib.hid hnd
  clear hs hr hn hnd
  go_enter Try.func68, Try.ntmps68
  go_upto_region 4 with (first
    | (refine wpList_load_nd rfl _ rfl _ n rfl HN.out ?_)
    | (refine wpList_store_nd rfl _ _ rfl (w.heap.size + 1) n rfl rfl _ (RowAt.new' _ _ _ (by simp)) rfl ?_; intro w3 hr3 hb3 ho3 hs3; have R := Lib.hid hr3; replace RB := Lib.hid (show RowAt w3 w.heap.size _ _ from (ho3 _ (by omega)).trans (RB.out.alloc _)); replace HB := Lib.hid (hb3 w.heap.size w (HB.out.alloc HB.out.size _) (Nat.le_succ _)); clear hr3 hb3 ho3 hs3))
  have HS3 := Lib.hid (HS.out.below HB.out)
  have HR3 := Lib.hid (HR.out.below HB.out)
  obtain ⟨c0, c1, c2, -⟩ := R.out.nd
  clear R1 HN HR HS
  rw [hk] at c0
  have c3 : w3.cell? ⟨w.heap.size + 1, 3, none⟩ = some (.int .i64 k0) := by rw [← hkz.out]; exact (R.out.ndK 0 (by omega)).1
  obtain ⟨b0, b1, -, -⟩ := RB.out.c2
  clear R RB
  go_wp2_with (go_at_call 68; (with_reducible refine (KW.out _ w3 HS3.out HR3.out).mono ?_); rintro e w4 ⟨sv4, rfl, hs4, hk4, hf4⟩)
  go_ret
  exact FillAns.of HB.out ⟨sv4, rfl, hs4, hk4, hf4⟩
set_option maxHeartbeats 8000000 in
theorem walk_jointN (ns : List Nd) (ko : Nat) (u : Value) (r : Int) (i : Nat) (n : Nd) (part : List UInt8) (out : List Pr) (sv : Value) (w : World) (hs : OS w ko sv out) (hr : ARN w ko sv u ns) (hp : part.length ≤ 64) (hn : ns[i]? = some n) (hk : n.kind = 2) (hlt : ¬ n.kids.getD 0 0 < i) : Calls Try.prog 68 #[.agg #[u, .int .i64 r], .int .i64 i, .string (mkS part), fnY ko] w (FillAns ko sv (out, false) w) := by
  have HS0 := Lib.hid hs
  generalize hkz : n.kids.getD 0 0 = k0 at *
  replace hkz := Lib.hid hkz
  have hi : i < ns.length := (List.getElem?_eq_some_iff.1 hn).1
  obtain ⟨p, c, rfl, z1, z2⟩ := RowE.shape encN hr.1
  have HB := Lib.hid ((Below.refl w.heap.size w).alloc (Nat.le_refl _) (.cells #[.slice p ns.length c, .int .i64 r] 37))
  have HS := Lib.hid hs
  have HR := Lib.hid hr
  have RB := Lib.hid (RowAt.new w #[.slice p ns.length c, .int .i64 r] 37)
  have R1 := RB.out.c2.1
  have g1 : ¬ (i : Int) < 0 := by omega
  have g2 : decide (ns.length ≤ i) = false := decide_eq_false (by omega)
  have hsz := mk_size part
  have g3 : decide ((64 : Int) < part.length) = false := decide_eq_false (by omega)
  have hil : (i : Int) < ns.length := by omega
  obtain ⟨a, rfl, hnd⟩ := NdAt.ofRowE (RN.below HR.out.1 HB.out (Nat.le_refl _)) hn
  have HN := Lib.hid hnd
  clear hs hr hn hnd
  go_enter Try.func68, Try.ntmps68
  go_upto_region 4 with (first
    | (refine wpList_load_nd rfl _ rfl _ n rfl HN.out ?_)
    | (refine wpList_store_nd rfl _ _ rfl (w.heap.size + 1) n rfl rfl _ (RowAt.new' _ _ _ (by simp)) rfl ?_; intro w3 hr3 hb3 ho3 hs3; have R := Lib.hid hr3; replace RB := Lib.hid (show RowAt w3 w.heap.size _ _ from (ho3 _ (by omega)).trans (RB.out.alloc _)); replace HB := Lib.hid (hb3 w.heap.size w (HB.out.alloc HB.out.size _) (Nat.le_succ _)); clear hr3 hb3 ho3 hs3))
  have HS3 := Lib.hid (HS.out.below HB.out)
  have HR3 := Lib.hid (HR.out.below HB.out)
  obtain ⟨c0, c1, c2, -⟩ := R.out.nd
  clear R1 HN HR HS
  rw [hk] at c0
  have c3 : w3.cell? ⟨w.heap.size + 1, 3, none⟩ = some (.int .i64 k0) := by rw [← hkz.out]; exact (R.out.ndK 0 (by omega)).1
  clear R RB
  go_wp2
  go_ret
  exact FillAns.no HS0.out HB.out
end Go.Proofs.Ytefmlbckbhlgdaa
namespace Go.Proofs.Ytefmlbckbhlgdaa
open Go.RowKit Go.Shelf
set_option maxRecDepth 100000
/-- A node's kids as a value. -/
def kdc (n : Nd) : Array Value := #[kidV n 0, kidV n 1, kidV n 2, kidV n 3, kidV n 4, kidV n 5, kidV n 6, kidV n 7, kidV n 8, kidV n 9, kidV n 10, kidV n 11, kidV n 12, kidV n 13, kidV n 14, kidV n 15]
theorem kdc_size (n : Nd) : (kdc n).size = 16 := rfl
theorem kdc_at (n : Nd) (i : Nat) (hi : i < 16) : (kdc n)[i]? = some (kidV n i) := by
  have : i = 0 ∨ i = 1 ∨ i = 2 ∨ i = 3 ∨ i = 4 ∨ i = 5 ∨ i = 6 ∨ i = 7 ∨ i = 8 ∨ i = 9 ∨ i = 10 ∨ i = 11 ∨ i = 12 ∨ i = 13 ∨ i = 14 ∨ i = 15 := by omega
  rcases this with rfl | rfl | rfl | rfl | rfl | rfl | rfl | rfl | rfl | rfl | rfl | rfl | rfl | rfl | rfl | rfl <;> rfl
theorem index_kids {n : Nd} {c : Nat} {k : Int} (hc : c < 16) (hk : (kdc n)[c]? = some (.int .i64 k)) (w : World) : (Instr.index 86 (.agg (kdc n)) (.int .i64 c)).run Try.prog w = .ok (.int .i64 k) w := by
  have hu := Try.underlying86
  have hci : (Try.prog.info? 3).map (fun i => i.size) = some 1 := by kernel_rfl
  obtain ⟨i0, hi0, hs0⟩ := Option.map_eq_some_iff.1 hci
  have hg : Try.prog.underlying 3 = some (.int .i64) := by kernel_rfl
  have hp : (part 3 (kdc n) c).run Try.prog w = .ok (.int .i64 k) w := by simp [part, go_sem, hk]
  have h16 : (c : Int) < 16 := by omega
  simp [Instr.index, asIntOf, run_underlying hu, sizeOf, typeInfo, hi0, hs0, hp]
  intro h
  omega
theorem size_kids : (Try.prog.info? 86).map (·.size) = some 16 := by kernel_rfl
theorem wpList_load_kids {ops : Array Oper} {rest : List Oper} {o : Oper} {a : Act} {w : World} {Q : Exit → Act → World → Prop} (hgd : o.guard = none) (x : Operand) (ho : o.op = .load 86 x)
    (k : Nat) (n : Nd) (hx : a.eval x = .pointer (some ⟨k, 3, none⟩)) (hn : RowAt w k (ndc n) 88) (h : wpList Try.prog ops Q rest (a.put o.dst (.agg (kdc n))) w) : wpList Try.prog ops Q (o :: rest) a w := by
  refine wpList_plain hgd fun _ hK => ?_
  unfold Oper.wp execOp
  simp only [ho, hx, Instr.loadAt, Instr.sureAddr, Sem.run_bind, Sem.run_pure, Result.andThen_ok, run_loadVar_at w _ ⟨k, 3, none⟩ (kdc n) _ (fun j u hj => by
    have hlt : j < 16 := by have := (Array.getElem?_eq_some_iff.1 hj).1; rw [kdc_size] at this; exact this
    rw [kdc_at n j hlt] at hj
    have hadd : (⟨k, 3, none⟩ : Addr).add j = ⟨k, 3 + j, none⟩ := by unfold Addr.add; split <;> simp_all
    rw [hadd, (hn.ndK j hlt).1]
    exact hj) Try.underlying86 rfl size_kids]
  exact hK _ _ h
theorem kidsW_few (go : Int → List UInt8 → List Pr → List Pr × Bool) (hgo : ∀ k p out, (go k p out).2 = true → out.length ≤ 64 → (go k p out).1.length ≤ 64) (i : Int) (part : List UInt8) : ∀ (ks : List Int) (c : Nat) (out : List Pr), (kidsW go i part ks c out).2 = true → out.length ≤ 64 → (kidsW go i part ks c out).1.length ≤ 64
  | [], _, _, _, h => h
  | k :: ks, c, out, hh, h => by
    rw [kidsW] at hh ⊢
    split at hh
    · rename_i e; rw [if_pos e]; exact kidsW_few go hgo i part ks (c + 1) out hh h
    · rename_i e
      rw [if_neg e]
      split at hh
      · rename_i e2
        rw [if_pos e2]
        simp only at hh ⊢
        split at hh
        · rename_i e3
          rw [if_pos e3]
          exact kidsW_few go hgo i part ks (c + 1) _ hh (hgo _ _ _ e3 h)
        · cases hh
      · cases hh
theorem yield_few {out : List Pr} {p v : List UInt8} (h : (yieldL out p v).2 = true) : (yieldL out p v).1.length ≤ 64 := by
  rw [yield_ok] at h
  simp only [Bool.and_eq_true, decide_eq_true_eq] at h
  show (out ++ _).length ≤ 64
  rw [List.length_append]
  exact h.2.2
theorem walkF_few (ns : List Nd) : ∀ (f : Nat) (k : Int) (p : List UInt8) (out : List Pr), (walkF ns f k p out).2 = true → out.length ≤ 64 → (walkF ns f k p out).1.length ≤ 64
  | 0, _, _, _, h, _ => by cases h
  | f + 1, k, p, out, h, ho => by
    rw [walkF] at h ⊢
    split at h
    · cases h
    · rename_i e0
      rw [if_neg e0]
      split at h
      · cases h
      · rename_i n hn
        by_cases h1 : 64 < p.length
        · rw [if_pos h1] at h; cases h
        · rw [if_neg h1] at h ⊢
          by_cases h2 : n.kind = 1
          · rw [if_pos h2] at h ⊢; exact yield_few h
          · rw [if_neg h2] at h ⊢
            by_cases h3 : n.kind = 2
            · rw [if_pos h3] at h ⊢
              by_cases h4 : n.kids.getD 0 0 < k
              · rw [if_pos h4] at h ⊢; exact walkF_few ns f _ _ _ h ho
              · rw [if_neg h4] at h; cases h
            · rw [if_neg h3] at h ⊢
              by_cases h5 : n.kind = 3
              · rw [if_pos h5] at h ⊢
                by_cases h6 : n.value = []
                · rw [if_pos h6] at h ⊢; exact kidsW_few _ (fun k p out => walkF_few ns f k p out) _ _ _ _ _ h ho
                · rw [if_neg h6] at h ⊢
                  simp only at h ⊢
                  by_cases h7 : (yieldL out p n.value).2 = true
                  · rw [if_pos h7] at h ⊢; exact kidsW_few _ (fun k p out => walkF_few ns f k p out) _ _ _ _ _ h (yield_few h7)
                  · rw [if_neg h7] at h; cases h
              · rw [if_neg h5] at h; cases h
theorem kids_drop {n : Nd} (h : n.kids.length = 16) {c : Nat} (hc : c < 16) : n.kids.drop c = n.kids.getD c 0 :: n.kids.drop (c + 1) := by
  rw [List.drop_eq_getElem_cons (by omega), List.getD_eq_getElem?_getD, List.getElem?_eq_getElem (by omega)]
  rfl

set_option maxHeartbeats 8000000 in
theorem walk_branchA (ns : List Nd) (ko : Nat) (u : Value) (r : Int) (i : Nat) (n : Nd) (part : List UInt8) (out : List Pr) (sv : Value) (w : World) (hs : OS w ko sv out) (hr : ARN w ko sv u ns) (hp : part.length ≤ 64) (hn : ns[i]? = some n) (f : Nat) (hk : n.kind = 3) (hkl : n.kids.length = 16) (hv : n.value = []) (ho : out.length ≤ 64)
    (KW : ∀ c, c < 16 → ∀ out1 : List Pr, out1.length ≤ 64 → n.kids.getD c 0 < i → ∀ sv1 u W, OS W ko sv1 out1 → ARN W ko sv1 u ns → Calls Try.prog 68 #[.agg #[u, .int .i64 r], .int .i64 (n.kids.getD c 0), .string (mkS (part ++ [UInt8.ofNat c])), fnY ko] W (FillAns ko sv1 (walkF ns f (n.kids.getD c 0) (part ++ [UInt8.ofNat c]) out1) W)) : Calls Try.prog 68 #[.agg #[u, .int .i64 r], .int .i64 i, .string (mkS part), fnY ko] w (FillAns ko sv (kidsW (walkF ns f) i part n.kids 0 out) w) := by
  have HK : Hid (kidsW (walkF ns f) i part (n.kids.drop 0) 0 out = kidsW (walkF ns f) i part n.kids 0 out) := Lib.hid rfl
  generalize kidsW (walkF ns f) i part n.kids 0 out = K0 at *
  have HKD := Lib.hid (fun c (hc : c < 16) => kids_drop hkl hc)
  have HKB := Lib.hid (show w.heap.size ≠ ko ∧ sv.ownBlock ≠ some w.heap.size ∧ w.heap.size < w.heap.size + 1 from ⟨fun e => by have := hs.1.lt; omega, fun e => by have := (hs.own _ e).2; omega, Nat.lt_succ_self _⟩)
  have HKA := Lib.hid (fun c (hc : c < 16) => kdc_at n c hc)
  replace KW := Lib.hid KW
  replace hkl := Lib.hid hkl
  have hve : (mkS n.value).toList.isEmpty = true := by rw [mkS_toList, hv]; rfl
  clear hv
  have HL := ho
  have hi : i < ns.length := (List.getElem?_eq_some_iff.1 hn).1
  obtain ⟨p, cp, rfl, z1, z2⟩ := RowE.shape encN hr.1
  have HB := Lib.hid ((Below.refl w.heap.size w).alloc (Nat.le_refl _) (.cells #[.slice p ns.length cp, .int .i64 r] 37))
  have HS := Lib.hid hs
  have HR := Lib.hid hr
  have RB := Lib.hid (RowAt.new w #[.slice p ns.length cp, .int .i64 r] 37)
  have R1 := RB.out.c2.1
  have g1 : ¬ (i : Int) < 0 := by omega
  have g2 : decide (ns.length ≤ i) = false := decide_eq_false (by omega)
  have hsz := mk_size part
  have g3 : decide ((64 : Int) < part.length) = false := decide_eq_false (by omega)
  have hil : (i : Int) < ns.length := by omega
  obtain ⟨a, rfl, hnd⟩ := NdAt.ofRowE (RN.below HR.out.1 HB.out (Nat.le_refl _)) hn
  have HN := Lib.hid hnd
  clear hs hr hn hnd
  go_enter Try.func68, Try.ntmps68
  go_upto_region 4 with (first
    | (refine wpList_load_nd rfl _ rfl _ n rfl HN.out ?_)
    | (refine wpList_store_nd rfl _ _ rfl (w.heap.size + 1) n rfl rfl _ (RowAt.new' _ _ _ (by simp)) rfl ?_; intro w3 hr3 hb3 ho3 hs3; have R := Lib.hid hr3; replace RB := Lib.hid (show RowAt w3 w.heap.size _ _ from (ho3 _ (by omega)).trans (RB.out.alloc _)); replace HB := Lib.hid (hb3 w.heap.size w (HB.out.alloc HB.out.size _) (Nat.le_succ _)); clear hr3 hb3 ho3 hs3))
  have HS3 := Lib.hid (HS.out.below HB.out)
  have HR3 := Lib.hid (HR.out.below HB.out)
  obtain ⟨c0, c1, c2, -⟩ := R.out.nd
  clear R1 HN HR HS
  rw [hk] at c0
  go_upto_region 13 with (refine wpList_load_kids rfl _ rfl (w.heap.size + 1) n rfl R.out ?_)
  have AK0 := Lib.hid (AK.ofBelow (ka := ko) (r := sv.ownBlock) HB.out)
  have F0 := Lib.hid (Fr.refl w sv)
  have B0 := Lib.hid HKB.out.2.1
  have HS := HS3
  have HR := HR3
  clear HS3 HR3 HB R c0 c1 c2
  go_loopw [77] (fun s wr => ∃ (c : Nat) (out1 : List Pr) (sv1 : Value), c ≤ 16 ∧ s = .int .i64 c ∧ out1.length ≤ 64 ∧ Hid (kidsW (walkF ns f) i part (n.kids.drop c) c out1 = K0) ∧ Hid (OS wr ko sv1 out1) ∧ Hid (ARN wr ko sv1 (.slice (some a) ns.length cp) ns) ∧ Hid (RowAt wr w.heap.size #[.slice (some a) ns.length cp, .int .i64 r] 37) ∧ Hid (AK ko sv.ownBlock w wr) ∧ Hid (Fr w sv sv1) ∧ Hid (sv1.ownBlock ≠ some w.heap.size)) (fun s _ => 16 - (intOf s).toNat)
  case atStart => exact ⟨0, out, sv, Nat.zero_le _, rfl, HL, HK, HS, HR, RB, AK0, F0, B0⟩
  case round =>
    clear HK HS HR RB AK0 F0 B0
    obtain ⟨c, out1, sv1, hc, rfl, hl1, hk1, hs1, hr1, hrb1, hak1, hf1, hbb1⟩ := hrel
    have HK := Lib.hid hk1.out
    have HS := Lib.hid hs1.out
    have HR := Lib.hid hr1.out
    have RB := Lib.hid hrb1.out
    have AK1 := Lib.hid hak1.out
    have F1 := Lib.hid hf1.out
    have B1 := Lib.hid hbb1.out
    clear hk1 hs1 hr1 hrb1 hak1 hf1 hbb1
    by_cases hlt : c < 16
    · have hkd := HKD.out c hlt
      have hka := HKA.out c hlt
      have KWc := Lib.hid (KW.out c hlt out1 hl1)
      have hd := HK.out
      rw [hkd] at hd
      clear hkd HK
      generalize hkz : n.kids.getD c 0 = k at *
      replace hkz := Lib.hid hkz
      rw [kidsW] at hd
      have hka2 : (kdc n)[c]? = some (.int .i64 k) := by rw [hka, ← hkz.out]; rfl
      have hix := index_kids hlt hka2
      clear hka hka2
      by_cases e1 : k = -1
      · rw [if_pos e1] at hd
        have HK2 := Lib.hid hd
        have q1 : (k != -1) = false := by simp [e1]
        clear hd KWc e1
        go_wp2
        exact ⟨⟨c + 1, out1, sv1, by omega, by simp, hl1, HK2, HS, HR, RB, AK1, F1, B1⟩, by simp [intOf]; omega⟩
      · rw [if_neg e1] at hd
        have q1 : (k != -1) = true := bne_iff_ne.2 e1
        by_cases e2 : k < i
        · rw [if_pos e2] at hd
          have KX := Lib.hid (KWc.out e2)
          have HXL := Lib.hid (fun (h : (walkF ns f k (part ++ [UInt8.ofNat c]) out1).2 = true) => walkF_few ns f k (part ++ [UInt8.ofNat c]) out1 h)
          generalize walkF ns f k (part ++ [UInt8.ofNat c]) out1 = X at *
          obtain ⟨x1, x2⟩ := X
          have q2 : decide ((i : Int) ≤ k) = false := decide_eq_false (by omega)
          have q3 : IntKind.u8.wrap (c : Int) = c := by rw [IntKind.wrap_u8]; omega
          have hcv : (convert 123 9 (.slice (some ⟨wr.heap.size, 0, none⟩) 1 1)).run Try.prog (wr.alloc (.cells #[.int .u8 c] 5)) = .ok (.string (mkS [UInt8.ofNat c])) (wr.alloc (.cells #[.int .u8 c] 5)) := (OwnB.one (Nat.le_refl _) (x := (c : Int)) (UInt8.ofNat c) (by rw [UInt8.toNat_ofNat']; omega)).conv
          have hap := mkS_append part [UInt8.ofNat c]
          have hsz1 := mk_size [UInt8.ofNat c]
          have HBA := Lib.hid ((Below.refl wr.heap.size wr).alloc (Nat.le_refl _) (.cells #[.int .u8 c] 5))
          obtain ⟨b0, b1, -, -⟩ := RB.out.c2
          clear KWc e1 e2
          cases x2
          · have HD := Lib.hid (show (x1, false) = K0 from hd)
            clear hd HXL
            go_wp2_with (go_at_call 68; (with_reducible refine (KX.out sv1 _ _ (HS.out.below HBA.out) (HR.out.below HBA.out)).mono ?_); rintro e w4 ⟨sv4, rfl, hs4, hk4, hf4⟩)
            go_ret
            rw [← HD.out]
            exact ⟨sv4, rfl, hs4, (AK1.out.same (AK.ofBelow HBA.out)).transF hk4 F1.out, F1.out.trans (fun g e => (hf4 g e).imp id (fun h => Nat.le_trans HBA.out.size h)) AK1.out.size⟩
          · have HK2 := Lib.hid (show kidsW (walkF ns f) i part (n.kids.drop (c + 1)) (c + 1) x1 = K0 from hd)
            have hl2 : x1.length ≤ 64 := HXL.out rfl hl1
            clear hd HXL b0 b1
            obtain ⟨b0, b1, -, -⟩ := RB.out.c2
            go_wp2_with (go_at_call 68; (with_reducible refine (KX.out sv1 _ _ (HS.out.below HBA.out) (HR.out.below HBA.out)).mono ?_); rintro e w4 ⟨sv4, rfl, hs4, hk4, hf4⟩; have HS4 := Lib.hid hs4; have HF4 := Lib.hid (show Fr wr sv1 sv4 from fun g e => (hf4 g e).imp id (fun h => Nat.le_trans HBA.out.size h)); have HK4 := Lib.hid ((AK.ofBelow (ka := ko) (r := sv1.ownBlock) HBA.out).same hk4); clear hs4 hk4 hf4)
            exact ⟨⟨c + 1, x1, sv4, by omega, by simp, hl2, HK2, HS4, Lib.hid (HR.out.step HK4.out HF4.out), Lib.hid (RB.out.ak HK4.out HKB.out.1 B1.out), Lib.hid (AK1.out.transF HK4.out F1.out), Lib.hid (F1.out.trans HF4.out AK1.out.size), Lib.hid (HF4.out.ne RB.out.lt B1.out)⟩, by simp [intOf]; omega⟩
        · rw [if_neg e2] at hd
          have HD := Lib.hid hd
          have q2 : decide ((i : Int) ≤ k) = true := decide_eq_true (by omega)
          clear hd KWc e1 e2
          go_wp2
          go_ret
          rw [← HD.out]
          exact ⟨sv1, rfl, HS.out, AK1.out, F1.out⟩
    · obtain rfl : c = 16 := by omega
      have HD := Lib.hid (show (out1, true) = K0 from by
        have h := HK.out
        rw [List.drop_eq_nil_of_le (by rw [hkl.out]; exact Nat.le_refl _)] at h
        exact h)
      clear HK KW HKD HKA
      go_wp2
      go_ret
      rw [← HD.out]
      exact ⟨sv1, rfl, HS.out, AK1.out, F1.out⟩
end Go.Proofs.Ytefmlbckbhlgdaa

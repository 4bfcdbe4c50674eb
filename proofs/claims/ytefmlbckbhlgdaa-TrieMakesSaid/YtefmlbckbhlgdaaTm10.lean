/- The trie: build, walked. The trie: build of a branch. The trie: build; the trie of pairs. The trie: of, walked. The trie: what yields do: a pair more. The trie: pairs' function value, walked. -/
import Derived.Test.YtefmlbckbhlgdaaTm6
import Derived.Test.YtefmlbckbhlgdaaTm9
namespace Go.Proofs.Ytefmlbckbhlgdaa
open Go.RowKit Go.Shelf
set_option maxRecDepth 100000
theorem AS.row {w : World} {ka : Nat} {sv : Value} {ns : List Nd} (h : AS w ka sv ns) : RowAt w ka #[sv] 132 := h.1
theorem AS.on {w : World} {ka : Nat} {sv : Value} {ns : List Nd} (h : AS w ka sv ns) : ON w (ka + 1) sv ns := h.2
/-- Behind a call of the arena's lay. -/
theorem BuildAns.of {w W w' : World} {ka : Nat} {sv sv' : Value} {ns : List Nd} {ix : Int} (hb : AK ka sv.ownBlock w W) (hk : AK ka sv.ownBlock W w') (hf : Fr W sv sv') (ha : AS w' ka sv' ns) : BuildAns ka sv (ns, ix) w (.returned (.int .i64 ix)) w' :=
  ⟨sv', rfl, ha, hb.same hk, fun g e => (hf g e).imp id (fun h => Nat.le_trans hb.size h)⟩
theorem build_nil (ns : List Nd) (ka : Nat) (sv v : Value) (w : World) (ha : AS w ka sv ns) (hr : AR w ka ka sv v []) : Calls Try.prog 78 #[.pointer (some ⟨ka, 0, none⟩), v] w (BuildAns ka sv (ns, -1) w) := by
  obtain ⟨p, c, rfl, z1, z2⟩ := RowE.shape encP hr.1
  simp only [List.length_nil] at *
  have HA := Lib.hid (ha.below ((Below.refl w.heap.size w).alloc (Nat.le_refl _) (.cells #[.pointer (some ⟨ka, 0, none⟩)] 130)))
  have HK := Lib.hid (AK.ofBelow (ka := ka) (r := sv.ownBlock) ((Below.refl w.heap.size w).alloc (Nat.le_refl _) (.cells #[.pointer (some ⟨ka, 0, none⟩)] 130)))
  clear ha hr
  go_enter Try.func78, Try.ntmps78
  go_wp2
  go_ret
  exact ⟨sv, rfl, HA.out, HK.out, Fr.refl _ _⟩

set_option maxHeartbeats 8000000 in
theorem build_leaf (p0 : Pr) (ns : List Nd) (ka : Nat) (sv v : Value) (w : World) (hn : ns.length ≤ 600000) (ha : AS w ka sv ns) (hr : AR w ka ka sv v [p0]) : Calls Try.prog 78 #[.pointer (some ⟨ka, 0, none⟩), v] w (BuildAns ka sv (ns ++ [leafN p0], (ns.length : Int)) w) := by
  obtain ⟨pv, cv, rfl, z1, z2⟩ := RowE.shape encP hr.1
  simp only [List.length_singleton] at *
  have HKX := Lib.hid (RowAt.new w #[.pointer (some ⟨ka, 0, none⟩)] 130)
  have HB := Lib.hid ((Below.refl w.heap.size w).alloc (Nat.le_refl _) (.cells #[.pointer (some ⟨ka, 0, none⟩)] 130))
  have HA := Lib.hid ha
  have HR := Lib.hid hr
  clear ha hr
  go_enter Try.func78, Try.ntmps78
  go_upto_region 6 with (first
    | (go_at_call 126; (with_reducible refine (fresh_any 1 _).mono ?_); rintro e w2 ⟨rfl, hb⟩; (replace HKX := Lib.hid (HKX.out.belowS hb); replace HB := Lib.hid (HB.out.trans (hb.mono HB.out.size)); clear hb))
    | (refine wpList_store_nd rfl _ _ rfl w2.heap.size (frN 1) rfl rfl _ (RowAt.new w2 _ _) rfl ?_; intro w3 hr3 hb3 ho3 hs3; have R := Lib.hid hr3; replace HB := Lib.hid (hb3 _ _ (HB.out.alloc HB.out.size _) HB.out.size); have HKN := Lib.hid HKX.out.lt; have HWN := Lib.hid (show w.heap.size < w2.heap.size from HKX.out.lt); replace HKX := Lib.hid (show RowAt w3 w.heap.size _ _ from (ho3 _ (Nat.ne_of_lt HKX.out.lt)).trans (HKX.out.alloc _)); clear hr3 hb3 ho3 hs3))
  generalize w2.heap.size = kn at *
  obtain ⟨a, rfl, d0, d1⟩ := RP.at (RP.below HR.out.1 HB.out (Nat.le_refl _)) (i := 0) rfl
  rw [Nat.zero_mul, Addr.add_zero'] at d0 d1
  have hab := Lib.hid (HR.out.1.blk (by simp) a.block rfl)
  obtain ⟨Ws, g0, g1, g2⟩ : ∃ Ws : Nat → World, Ws 0 = w3.drew ∧ Ws 1 = w3.drew.setCell ⟨kn, 1, none⟩ (.string (mkS p0.1)) ∧ Ws 2 = (w3.drew.setCell ⟨kn, 1, none⟩ (.string (mkS p0.1))).setCell ⟨kn, 2, none⟩ (.string (mkS p0.2)) :=
    ⟨fun s => match s with | 0 => w3.drew | 1 => w3.drew.setCell ⟨kn, 1, none⟩ (.string (mkS p0.1)) | _ => (w3.drew.setCell ⟨kn, 1, none⟩ (.string (mkS p0.1))).setCell ⟨kn, 2, none⟩ (.string (mkS p0.2)), rfl, rfl, rfl⟩
  have hW : ∀ s, s ≤ 2 → ∀ k, k ≠ kn → (Ws s).heap[k]? = w3.heap[k]? := fun s hs k hk => by
    match s, hs with
    | 0, _ => rw [g0]; rfl
    | 1, _ => rw [g1, heap_setCell_other _ ⟨kn, 1, none⟩ _ _ hk]; rfl
    | 2, _ => rw [g2, heap_setCell_other _ ⟨kn, 2, none⟩ _ _ hk, heap_setCell_other _ ⟨kn, 1, none⟩ _ _ hk]; rfl
  have key : ∀ {a : Addr} {v : Value}, a.block ≠ kn → w3.cell? a = some v → ∀ s : { s : Nat // s ≤ 2 }, (Ws s.1).cell? a = some v := fun {a v} hne h ⟨s, hs⟩ => by
    rw [World.cell?_of_block (w := w3) (hW s hs a.block hne)]; exact h
  replace d0 := key (by have := hab.out; have := HWN.out; omega) d0
  replace d1 := key (by have := hab.out; have := HWN.out; show a.block ≠ kn; omega) d1
  have G0 := Lib.hid g0
  have G1 := Lib.hid g1
  have G2 := Lib.hid g2
  obtain ⟨-, c1, -, -, f1, -⟩ := R.out.nd
  obtain ⟨-, -, c2, -, -, f2⟩ := (R.out.ndPart p0.1).nd
  clear key hW g0 g1 g2
  (refine region_stages [9, 11] (fun k => 2) Ws mix ?hB G0.out ?_; case hB => kernel_rfl); ((with_reducible refine stg_step 2 ?hkk ?_); (case hkk => rfl); intro K hK; go_simp; (with_reducible refine hK _ ?_; clear hK K)); ((with_reducible refine stg_step 2 ?hkk ?_); (case hkk => rfl); intro K hK; go_simp; (with_reducible refine hK _ ?_; clear hK K)); ((with_reducible refine stg_step 2 ?hkk ?_); (case hkk => rfl); intro K hK; go_simp; (with_reducible refine hK _ ?_; clear hK K)); ((with_reducible refine stg_step 2 ?hkk ?_); (case hkk => rfl); intro K hK; go_simp; (with_reducible refine hK _ ?_; clear hK K)); ((with_reducible refine stg_step 2 ?hkk ?_); (case hkk => rfl); intro K hK; go_simp; (with_reducible refine hK _ ?_; clear hK K)); ((with_reducible refine stg_step 2 ?hkk ?_); (case hkk => rfl); intro K hK; go_simp; (with_reducible refine hK _ ?_; clear hK K)); ((with_reducible refine stg_step 2 ?hkk ?_); (case hkk => rfl); intro K hK; go_simp; (with_reducible refine hK _ ?_; clear hK K)); ((with_reducible refine stg_step 2 ?hkk ?_); (case hkk => rfl); intro K hK; go_simp; (with_reducible refine hK _ ?_; clear hK K)); ((with_reducible refine stg_step 2 ?hkk ?_); (case hkk => rfl); intro K hK; go_simp; (with_reducible refine hK _ ?_; clear hK K)); (refine stg_eff 0 (undef) rfl (by decide) rfl ?he ?_; case he => (show effUpon (Ws 1) _ (Sem.run _ _ (Ws 0)); (rw [G1.out, G0.out]; unfold effUpon; go_simp))); go_simp; ((with_reducible refine stg_step 2 ?hkk ?_); (case hkk => rfl); intro K hK; go_simp; (with_reducible refine hK _ ?_; clear hK K)); (refine stg_eff 1 (undef) rfl (by decide) rfl ?he ?_; case he => (show effUpon (Ws 2) _ (Sem.run _ _ (Ws 1)); (rw [G2.out, G1.out]; unfold effUpon; go_simp))); go_simp; (with_reducible refine stg_nil ?_)
  have HR2 := Lib.hid (show RowAt (Ws 2) kn (ndc (leafN p0)) 88 from by rw [G2.out]; exact (R.out.drew.ndPart p0.1).ndValue p0.2)
  have HB2 := Lib.hid (show Below w.heap.size w (Ws 2) from by rw [G2.out]; exact (HB.out.drew.setCell (p := ⟨kn, 1, none⟩) (Nat.le_of_lt HWN.out) _).setCell (p := ⟨kn, 2, none⟩) (Nat.le_of_lt HWN.out) _)
  have HX2 := Lib.hid (show RowAt (Ws 2) w.heap.size _ _ from by rw [G2.out]; exact (HKX.out.drew.other ⟨kn, 1, none⟩ (.string (mkS p0.1)) (Nat.ne_of_lt HWN.out)).other ⟨kn, 2, none⟩ (.string (mkS p0.2)) (Nat.ne_of_lt HWN.out))
  clear G0 G1 G2 c1 c2 f1 f2 d0 d1 R HB HKX
  generalize Ws 2 = W2 at *
  clear Ws
  have HKX := HX2
  have R := HR2
  have HAX := Lib.hid (HA.out.below HB2.out)
  clear HX2 HR2
  have cx : W2.cell? ⟨w.heap.size, 0, none⟩ = some (.pointer (some ⟨ka, 0, none⟩)) := HKX.out.cell 0
  go_wp2_with (first
    | (refine wpList_load_nd rfl _ rfl _ (leafN p0) rfl (NdAt.ofRow R.out) ?_)
    | (go_at_call 127; (with_reducible refine (alay_any (leafN p0) (ns) ka sv W2 (AS.row HAX.out) (AS.on HAX.out) hn).mono ?_); rintro e w9 ⟨sv9, rfl, hr9, ho9, hk9, hf9⟩))
  go_ret
  exact BuildAns.of (AK.ofBelow HB2.out) hk9 hf9 ⟨hr9, ho9⟩

/-- The first and the last say how much a rising row has in common. -/
theorem common_ends {l : List Pr} {m : Nat} (hs : sortP l) (hl : l.length = m + 1) : ∃ p z, l[0]? = some p ∧ l[m]? = some z ∧ commonL l = shareL p.1 z.1 := by
  match l, hl with
  | [p], hl =>
    obtain rfl : m = 0 := by simpa using hl.symm
    exact ⟨p, p, rfl, rfl, by rw [shareL_self]; rfl⟩
  | p :: q :: r, hl =>
    obtain ⟨r', z, e⟩ : ∃ r' z, q :: r = r' ++ [z] := ⟨(q :: r).dropLast, (q :: r).getLast (by simp), (List.dropLast_concat_getLast (by simp)).symm⟩
    rw [e] at hs hl ⊢
    refine ⟨p, z, rfl, ?_, ?_⟩
    · have : m = r'.length + 1 := by simp at hl; omega
      subst this
      rw [List.getElem?_cons_succ, List.getElem?_append_right (Nat.le_refl _), Nat.sub_self]
      rfl
    · rw [commonL_last hs, shareL_comm]

set_option maxHeartbeats 8000000 in
theorem build_joint (f : Nat) (ih : BuildC f) (p0 : Pr) (t : List Pr) (ns : List Nd) (ka : Nat) (sv v : Value) (w : World) (hs : sortP (p0 :: t)) (hh : halfP (p0 :: t)) (hz : ∀ p ∈ p0 :: t, p.1.length < f + 1) (hf : f ≤ 1000) (ht : 1 ≤ t.length) (hpos : 0 < commonL (p0 :: t)) (hl : (p0 :: t).length ≤ 1000) (hn : ns.length + f * (p0 :: t).length ≤ 500000)
    (ha : AS w ka sv ns) (hr : AR w ka ka sv v (p0 :: t)) : Calls Try.prog 78 #[.pointer (some ⟨ka, 0, none⟩), v] w (BuildAns ka sv ((layF f (cutK (commonL (p0 :: t)) (p0 :: t)) ns).1 ++ [jointN (p0.1.take (commonL (p0 :: t))) (layF f (cutK (commonL (p0 :: t)) (p0 :: t)) ns).2], ((layF f (cutK (commonL (p0 :: t)) (p0 :: t)) ns).1.length : Int)) w) := by
  have hlen : (p0 :: t).length = t.length + 1 := List.length_cons
  obtain ⟨p1, z, hp1, hz1, hcm⟩ := common_ends hs hlen
  obtain rfl : p0 = p1 := by simpa using hp1
  have hk0 : commonL (p0 :: t) ≤ p0.1.length := commonL_le.1
  have hk1 : commonL (p0 :: t) ≤ 1000 := by have := hz p0 List.mem_cons_self; omega
  have hsz := mk_size p0.1
  have htk := mkS_take p0.1 (commonL (p0 :: t))
  have hckl : (cutK (commonL (p0 :: t)) (p0 :: t)).length = (p0 :: t).length := List.length_map _
  have hxl : (layF f (cutK (commonL (p0 :: t)) (p0 :: t)) ns).1.length ≤ 600000 := by
    have := layF_len f (cutK (commonL (p0 :: t)) (p0 :: t)) ns
    rw [hckl] at this
    omega
  have KS := Lib.hid (fun W => share_any (mkS p0.1) (mkS z.1) W (by rw [hsz]; have := hz p0 List.mem_cons_self; omega) (by rw [mk_size]; have := hz z (List.mem_of_getElem? hz1); omega))
  rw [shareB_mk, ← hcm] at KS
  have KL := Lib.hid (fun W (hb : Below w.heap.size w W) => less_any (p0 :: t) (commonL (p0 :: t)) v W (RP.below hr.1 hb (Nat.le_refl _)) (by omega) (fun p hp => (common_take p hp).2) (by omega))
  have KB := Lib.hid (fun v2 W W0 (h2 : RP W v2 (cutK (commonL (p0 :: t)) (p0 :: t))) (hs0 : w.heap.size ≤ W0) (h3 : ∀ g, v2.ownBlock = some g → W0 ≤ g) (hb : Below w.heap.size w W) => ih (cutK (commonL (p0 :: t)) (p0 :: t)) ns ka sv v2 W (sortP_cutK hs (fun p hp q hq => (common_take p hp).1.trans (common_take q hq).1.symm) (fun p hp => (common_take p hp).2)) (halfP_cutK hh) (fun p hp => by
    obtain ⟨q, hq, rfl⟩ := List.mem_map.1 hp
    have h1 := hz q hq
    have h2 := (common_take q hq).2
    show (q.1.drop _).length < f
    rw [List.length_drop]; omega) (by rw [hckl]; exact hl) (by rw [hckl]; exact hn) (ha.below hb) (AR.new h2 (fun g hg => Nat.le_trans hs0 (h3 g hg)) ha.1.lt ha.1.lt (fun g e => (ha.own g e).2)))
  generalize layF f (cutK (commonL (p0 :: t)) (p0 :: t)) ns = r at *
  obtain ⟨ms, ix⟩ := r
  simp only at hxl
  have hx0 : (p0 :: t)[0]? = some p0 := rfl
  have HAL := Lib.hid ha.1.lt
  have HOW := Lib.hid ha.own
  obtain ⟨pv, cv, rfl, z1, z2⟩ := RowE.shape encP hr.1
  have HNE := Lib.hid (show (p0 :: t) ≠ [] by simp)
  generalize (p0 :: t).length = L at *
  subst hlen
  generalize cutK (commonL (p0 :: t)) (p0 :: t) = l2 at *
  generalize commonL (p0 :: t) = k at *
  generalize p0 :: t = l at *
  generalize htl : t.length = m at *
  have hg1 : ¬ ((m : Int) + 1 = 1) := by omega
  have hg2 : ¬ ((m : Int) + 1 = 0) := by omega
  have hml : m + 1 ≤ 1000 := by omega
  have hkp : (0 : Int) < k := by omega
  clear hs hh hz hcm hp1 hckl ih hn hl htl ht
  have HKX := Lib.hid (RowAt.new w #[.pointer (some ⟨ka, 0, none⟩)] 130)
  have HB := Lib.hid ((Below.refl w.heap.size w).alloc (Nat.le_refl _) (.cells #[.pointer (some ⟨ka, 0, none⟩)] 130))
  have HA := Lib.hid ha
  have HR := Lib.hid hr
  clear ha hr
  obtain ⟨a, rfl, d0, -⟩ := RP.at (RP.below HR.out.1 HB.out (Nat.le_refl _)) hx0
  obtain ⟨a', e', d2, -⟩ := RP.at (RP.below HR.out.1 HB.out (Nat.le_refl _)) hz1
  obtain rfl := Option.some.inj e'
  rw [Nat.zero_mul, Addr.add_zero'] at d0
  clear e' hz1
  have D0 := Lib.hid d0
  go_enter Try.func78, Try.ntmps78
  go_upto_region 8 with (fail)
  clear d0
  generalize w.alloc (.cells #[.pointer (some ⟨ka, 0, none⟩)] 130) = w1 at *
  replace d0 := fun u : Later w1 => (u.below.cell (block_lt_of_cell D0.out)).trans D0.out
  replace d2 := fun u : Later w1 => (u.below.cell (block_lt_of_cell d2)).trans d2
  (refine region_later mix ?hB ?_; case hB => kernel_rfl); (repeat (first | go_big_quiet_step ((go_at_call 128; with_reducible exact Later.call (KS.out _))) | quiet_step ((go_at_call 128; with_reducible exact Later.call (KS.out _))))); (refine wpQuiet_nil ?_; rintro _ ⟨u, rfl⟩)
  replace HKX := Lib.hid (HKX.out.belowS u.below)
  replace HB := Lib.hid (HB.out.trans (u.below.mono HB.out.size))
  clear d0 d2 D0 KS
  generalize u.w = wu at *
  go_upto_region 11 with (first
    | (go_at_call 126; (with_reducible refine (fresh_any 2 _).mono ?_); rintro e w2 ⟨rfl, hb⟩; (replace HKX := Lib.hid (HKX.out.belowS hb); replace HB := Lib.hid (HB.out.trans (hb.mono HB.out.size)); clear hb))
    | (refine wpList_store_nd rfl _ _ rfl w2.heap.size (frN 2) rfl rfl _ (RowAt.new w2 _ _) rfl ?_; intro w3 hr3 hb3 ho3 hs3; have R := Lib.hid hr3; replace HB := Lib.hid (hb3 _ _ (HB.out.alloc HB.out.size _) HB.out.size); have HKN := Lib.hid HKX.out.lt; have HWN := Lib.hid (show w.heap.size < w2.heap.size from HKX.out.lt); replace HKX := Lib.hid (show RowAt w3 w.heap.size _ _ from (ho3 _ (Nat.ne_of_lt HKX.out.lt)).trans (HKX.out.alloc _)); clear hr3 hb3 ho3 hs3))
  generalize w2.heap.size = kn at *
  obtain ⟨a', e', d0, -⟩ := RP.at (RP.below HR.out.1 HB.out (Nat.le_refl _)) hx0
  obtain rfl := Option.some.inj e'
  rw [Nat.zero_mul, Addr.add_zero'] at d0
  obtain ⟨-, c1, -, -, f1, -⟩ := R.out.nd
  clear e'
  go_upto_region 12 with (fail)
  replace R := Lib.hid (show RowAt (w3.setCell ⟨kn, 1, none⟩ (.string (mkS (p0.1.take k)))) kn (ndc ⟨2, p0.1.take k, [], noKids⟩) 88 from R.out.ndPart (p0.1.take k))
  replace HB := Lib.hid (HB.out.setCell (p := ⟨kn, 1, none⟩) (Nat.le_of_lt HWN.out) (.string (mkS (p0.1.take k))))
  replace HKX := Lib.hid (HKX.out.other ⟨kn, 1, none⟩ (.string (mkS (p0.1.take k))) (Nat.ne_of_lt HWN.out))
  clear d0 c1 f1
  generalize w3.setCell ⟨kn, 1, none⟩ (.string (mkS (p0.1.take k))) = w4 at *
  have e5 : sv.ownBlock ≠ some w.heap.size := fun e => by have := (HOW.out _ e).2; omega
  have e4 : sv.ownBlock ≠ some kn := fun e => by have := (HOW.out _ e).2; have := HWN.out; omega
  have e2 : w.heap.size ≠ ka := fun e => by have := HAL.out; omega
  have e1 : kn ≠ ka := fun e => by have := HAL.out; have := HWN.out; omega
  have q0 : ∀ u : InC (fun W' => AK ka sv.ownBlock w4.drew W'), u.w.cell? ⟨w.heap.size, 0, none⟩ = some (.pointer (some ⟨ka, 0, none⟩)) := fun u => (RowAt.ak HKX.out.drew u.is e2 e5).cell 0
  haveI : Nonempty (InC (fun W' => AK ka sv.ownBlock w4.drew W')) := ⟨⟨w4.drew, AK.refl _ _ _⟩⟩
  have HBD := Lib.hid HB.out.drew
  (refine region_order [0, 1, 2, 5] [3, 4] 6 (fun W' => AK ka sv.ownBlock w4.drew W') mix ?hB ?hC ?_; case hB => kernel_rfl); (case hC => (exact AK.refl _ _ _)); (iterate 4 ((with_reducible refine xr_step ?_); (refine ⟨_, rfl, ?_⟩); intro K hK; go_simp; (with_reducible refine hK _ ?_); clear hK K)); (with_reducible refine xr_nil ?_); ((with_reducible refine xe_step ?_); (refine ⟨_, rfl, ?_⟩); intro K hK; unfold EX; go_simp; (go_at_call 129; (with_reducible refine (KL.out _ HBD.out).mono ?_); rintro e w5 ⟨v5, rfl, hr5, hn5, hb5⟩; refine ⟨_, rfl, AK.ofBelow hb5, hK _ _ ?_⟩; clear hK K)); ((with_reducible refine xe_step ?_); (refine ⟨_, rfl, ?_⟩); intro K hK; unfold EX; go_simp; (go_at_call 78; (with_reducible refine (KB.out v5 w5 _ hr5 HBD.out.size hn5 (HBD.out.trans (hb5.mono HBD.out.size))).mono ?_); rintro e w6 ⟨sv6, rfl, ha6, hk6, hf6⟩; refine ⟨_, rfl, (AK.ofBelow (ka := ka) (r := sv.ownBlock) hb5).same hk6, hK _ _ ?_⟩; clear hK K)); (with_reducible refine xe_nil ?_); (simp only [List.drop_succ_cons, List.drop_zero])
  have HB5 := HBD.out.trans (hb5.mono HBD.out.size)
  have AKT := (AK.ofBelow (ka := ka) (r := sv.ownBlock) HB5).same hk6
  have HN6 := Lib.hid ((R.out.drew.belowS hb5).ak hk6 e1 e4)
  have HX6 := Lib.hid ((HKX.out.drew.belowS hb5).ak hk6 e2 e5)
  have HF := Lib.hid (show Fr w sv sv6 from fun g hg => (hf6 g hg).imp id (fun h => Nat.le_trans HB5.size h))
  have HE := Lib.hid (show sv6.ownBlock ≠ some kn from fun e => by
    rcases hf6 kn e with h | h
    · exact e4 h
    · have := (R.out.drew.belowS hb5).lt; omega)
  have HA6 := Lib.hid (ha6.other (kn := kn) e1 HE.out 3 (.int .i64 ix))
  have AK6 := Lib.hid (AN.ak AKT ((AN.refl ka kn sv6.ownBlock w6).trans (sv' := sv6) (AN.set (ka := ka) (r := sv6.ownBlock) 3 (.int .i64 ix)) (Fr.refl _ _)) HF.out (Nat.le_of_lt HWN.out))
  replace R := Lib.hid (show RowAt (w6.setCell ⟨kn, 3, none⟩ (.int .i64 ix)) kn (ndc (jointN (p0.1.take k) ix)) 88 from HN6.out.ndKid rfl 0 (by omega) ix)
  replace HKX := Lib.hid (HX6.out.other ⟨kn, 3, none⟩ (.int .i64 ix) (Nat.ne_of_lt HWN.out))
  obtain ⟨c3, f3⟩ : w6.cell? ⟨kn, 3, none⟩ = some (kidV ⟨2, p0.1.take k, [], noKids⟩ 0) ∧ w6.frozen? ⟨kn, 3, none⟩ = false := HN6.out.ndK 0 (by omega)
  clear q0 this HB5 AKT HN6 HX6 ha6 hk6 hf6 hr5 hn5 hb5 KL KB HA HR HB HBD
  go_upto_region 13 with (fail)
  clear c3 f3
  generalize w6.setCell ⟨kn, 3, none⟩ (.int .i64 ix) = W2 at *
  have HAX := HA6
  have cx : W2.cell? ⟨w.heap.size, 0, none⟩ = some (.pointer (some ⟨ka, 0, none⟩)) := HKX.out.cell 0
  go_wp2_with (first
    | (refine wpList_load_nd rfl _ rfl _ (jointN (p0.1.take k) ix) rfl (NdAt.ofRow R.out) ?_)
    | (go_at_call 127; (with_reducible refine (alay_any (jointN (p0.1.take k) ix) (ms) ka sv6 W2 (AS.row HAX.out) (AS.on HAX.out) hxl).mono ?_); rintro e w9 ⟨sv9, rfl, hr9, ho9, hk9, hf9⟩))
  go_ret
  obtain ⟨y1, y2, y3, y4⟩ := BuildAns.of (ns := ms ++ [jointN (p0.1.take k) ix]) (ix := (ms.length : Int)) (AK.refl ka sv6.ownBlock W2) hk9 hf9 ⟨hr9, ho9⟩
  exact ⟨sv9, rfl, ⟨hr9, ho9⟩, AK6.out.transF hk9 HF.out, HF.out.trans hf9 AK6.out.size⟩

theorem valE_none : ∀ {l : List Pr}, (∀ p ∈ l, p.1 ≠ []) → valE l = []
  | [], _ => rfl
  | p :: l, h => by
    rw [valE, if_neg (h p List.mem_cons_self)]
    exact valE_none fun q hq => h q (List.mem_cons_of_mem _ hq)
theorem tail_keys {p : Pr} {t : List Pr} (hs : sortP (p :: t)) : ∀ q ∈ t, 1 ≤ q.1.length := fun q hq => by
  have := (List.pairwise_cons.1 hs).1 q hq
  cases h : q.1 with
  | nil => rw [h] at this; cases p.1 <;> simp [ltL, Op.bytesLess] at this
  | cons x r => simp
theorem kidsF_empty {f : Nat} {p : Pr} {t : List Pr} (h : p.1 = []) (cs : List Nat) (s : List Nd × List Int) : kidsF f (p :: t) cs s = kidsF f t cs s := by
  have hc : ∀ c, cutC c (p :: t) = cutC c t := fun c => by
    unfold cutC
    rw [List.filter_cons_of_neg (by unfold hasC; rw [h]; simp)]
  unfold kidsF
  congr 1
  funext s c
  rw [hc]
theorem padK_full (f : Nat) (l : List Pr) (ns : List Nd) : padK (ksF f l ns 16) 16 = (kidsF f l (List.range 16) (ns, [])).2 := by
  unfold padK ksF
  rw [Nat.sub_self, List.replicate_zero, List.append_nil]
end Go.Proofs.Ytefmlbckbhlgdaa
namespace Go.Proofs.Ytefmlbckbhlgdaa
open Go.RowKit Go.Shelf
set_option maxRecDepth 100000
set_option maxHeartbeats 8000000 in
theorem build_branchA (f : Nat) (ih : BuildC f) (p0 : Pr) (t : List Pr) (ns : List Nd) (ka : Nat) (sv v : Value) (w : World) (hs : sortP (p0 :: t)) (hh : halfP (p0 :: t)) (hz : ∀ p ∈ p0 :: t, p.1.length < f + 1) (hf : f ≤ 1000) (ht : 1 ≤ t.length) (hc0 : commonL (p0 :: t) = 0) (hl : (p0 :: t).length ≤ 1000) (hn : ns.length + f * (p0 :: t).length ≤ 500000) (he : p0.1 = [])
    (ha : AS w ka sv ns) (hr : AR w ka ka sv v (p0 :: t)) : Calls Try.prog 78 #[.pointer (some ⟨ka, 0, none⟩), v] w (BuildAns ka sv (nsF f t ns 16 ++ [branchN p0.2 (padK (ksF f t ns 16) 16)], ((nsF f t ns 16).length : Int)) w) := by
  have hlen : (p0 :: t).length = t.length + 1 := List.length_cons
  obtain ⟨p1, z, hp1, hz1, hcm⟩ := common_ends hs hlen
  obtain rfl : p0 = p1 := by simpa using hp1
  have hsz := mk_size p0.1
  rw [hc0] at hcm
  have KS := Lib.hid (fun W => share_any (mkS p0.1) (mkS z.1) W (by rw [hsz]; have := hz p0 List.mem_cons_self; omega) (by rw [mk_size]; have := hz z (List.mem_of_getElem? hz1); omega))
  rw [shareB_mk, ← hcm] at KS
  have hll : t.length ≤ (p0 :: t).length := by first | exact Nat.le_refl _ | (rw [hlen]; exact Nat.le_succ _)
  have hmt : ∀ q ∈ t, q ∈ p0 :: t := by first | exact fun q hq => hq | exact fun q hq => List.mem_cons_of_mem _ hq
  have hkt : ∀ q ∈ t, 1 ≤ q.1.length := by
    first
    | exact tail_keys hs
    | exact fun q hq => by
        rcases List.mem_cons.1 hq with rfl | hq
        · exact List.length_pos_iff.2 he
        · exact tail_keys hs q hq
  have hst : sortP t := by first | exact hs | exact (List.pairwise_cons.1 hs).2
  have hxl : (nsF f t ns 16).length ≤ 600000 := by
    have h1 := kidsF_len f t ns 16
    have h2 := Nat.mul_le_mul_left f (Nat.le_trans (cutC_sum t 16) hll)
    unfold nsF
    omega
  have KE := Lib.hid (fun (nd : Nd) (kn : Nat) (v2 : Value) (W : World) (k1 : AS W ka sv ns) (k2 : AR W ka kn sv v2 t) (k3 : RowAt W kn (ndc nd) 88) (k4 : nd.kids = noKids) (k5 : RowAt W w.heap.size #[.pointer (some ⟨ka, 0, none⟩)] 130) (e1 : kn ≠ ka) (e2 : w.heap.size ≠ ka) (e3 : w.heap.size ≠ kn) (e4 : sv.ownBlock ≠ some kn) (e5 : sv.ownBlock ≠ some w.heap.size) =>
    each_any f ih t ns nd ka kn w.heap.size sv v2 W hst (fun q hq => hh q (hmt q hq)) hkt (fun q hq => hz q (hmt q hq)) (Nat.le_trans hll hl) (by have := Nat.mul_le_mul_left f hll; omega) hf k1 k2 k3 k4 k5 e1 e2 e3 e4 e5)
  generalize nsF f t ns 16 = ms at *
  generalize padK (ksF f t ns 16) 16 = ks at *
  have hbq : (mkS p0.1).toList.isEmpty = true := by rw [mkS_toList]; first | (rw [he]; rfl) | exact List.isEmpty_eq_false_iff.2 he
  have hx0 : (p0 :: t)[0]? = some p0 := rfl
  have HAL := Lib.hid ha.1.lt
  have HOW := Lib.hid ha.own
  obtain ⟨pv, cv, rfl, z1, z2⟩ := RowE.shape encP hr.1
  have HNE := Lib.hid (show (p0 :: t) ≠ [] by simp)
  have HTL := Lib.hid (show (p0 :: t).drop 1 = t from rfl)
  have HBL := Lib.hid (hr.1.blk (by simp))
  generalize hLL : (p0 :: t).length = L at *
  subst hlen
  replace hLL := Lib.hid hLL
  generalize p0 :: t = l at *
  generalize htl : t.length = m at *
  have hg1 : ¬ ((m : Int) + 1 = 1) := by omega
  have hg2 : ¬ ((m : Int) + 1 = 0) := by omega
  have hml : m + 1 ≤ 1000 := by omega
  have hm1 : 1 ≤ m := by omega
  clear hs hh hz hcm hp1 ih hn hl htl ht hll hmt hkt hst hc0 he
  have HKX := Lib.hid (RowAt.new w #[.pointer (some ⟨ka, 0, none⟩)] 130)
  have HB := Lib.hid ((Below.refl w.heap.size w).alloc (Nat.le_refl _) (.cells #[.pointer (some ⟨ka, 0, none⟩)] 130))
  have HA := Lib.hid ha
  have HR := Lib.hid hr
  clear ha hr
  obtain ⟨a, rfl, d0, d1⟩ := RP.at (RP.below HR.out.1 HB.out (Nat.le_refl _)) hx0
  obtain ⟨a', e', d2, -⟩ := RP.at (RP.below HR.out.1 HB.out (Nat.le_refl _)) hz1
  obtain rfl := Option.some.inj e'
  rw [Nat.zero_mul, Addr.add_zero'] at d0
  clear e' hz1 d1
  have D0 := Lib.hid d0
  go_enter Try.func78, Try.ntmps78
  go_upto_region 8 with (fail)
  clear d0
  generalize w.alloc (.cells #[.pointer (some ⟨ka, 0, none⟩)] 130) = w1 at *
  replace d0 := fun u : Later w1 => (u.below.cell (block_lt_of_cell D0.out)).trans D0.out
  replace d2 := fun u : Later w1 => (u.below.cell (block_lt_of_cell d2)).trans d2
  (refine region_later mix ?hB ?_; case hB => kernel_rfl); (repeat (first | go_big_quiet_step ((go_at_call 128; with_reducible exact Later.call (KS.out _))) | quiet_step ((go_at_call 128; with_reducible exact Later.call (KS.out _))))); (refine wpQuiet_nil ?_; rintro _ ⟨u, rfl⟩)
  replace HKX := Lib.hid (HKX.out.belowS u.below)
  replace HB := Lib.hid (HB.out.trans (u.below.mono HB.out.size))
  clear d0 d2 D0 KS
  generalize u.w = wu at *
  go_upto_region 15 with (first
    | (go_at_call 126; (with_reducible refine (fresh_any 3 _).mono ?_); rintro e w2 ⟨rfl, hb⟩; (replace HKX := Lib.hid (HKX.out.belowS hb); replace HB := Lib.hid (HB.out.trans (hb.mono HB.out.size)); clear hb))
    | (refine wpList_store_nd rfl _ _ rfl w2.heap.size (frN 3) rfl rfl _ (RowAt.new w2 _ _) rfl ?_; intro w3 hr3 hb3 ho3 hs3; have R := Lib.hid hr3; replace HB := Lib.hid (hb3 _ _ (HB.out.alloc HB.out.size _) HB.out.size); have HKN := Lib.hid HKX.out.lt; have HWN := Lib.hid (show w.heap.size < w2.heap.size from HKX.out.lt); replace HKX := Lib.hid (show RowAt w3 w.heap.size _ _ from (ho3 _ (Nat.ne_of_lt HKX.out.lt)).trans (HKX.out.alloc _)); clear hr3 hb3 ho3 hs3))
  generalize w2.heap.size = kn at *
  obtain ⟨a', e', d0, d1⟩ := RP.at (RP.below HR.out.1 HB.out (Nat.le_refl _)) hx0
  obtain rfl := Option.some.inj e'
  rw [Nat.zero_mul, Addr.add_zero'] at d0 d1
  clear e'
  have e5 : sv.ownBlock ≠ some w.heap.size := fun e => by have := (HOW.out _ e).2; omega
  have e4 : sv.ownBlock ≠ some kn := fun e => by have := (HOW.out _ e).2; have := HWN.out; omega
  have e2 : w.heap.size ≠ ka := fun e => by have := HAL.out; omega
  have e1 : kn ≠ ka := fun e => by have := HAL.out; have := HWN.out; omega
  have e3 : w.heap.size ≠ kn := Nat.ne_of_lt HWN.out
  obtain ⟨-, -, c2, -, -, f2⟩ := R.out.nd
  go_upto_region 17 with (fail)
  replace R := Lib.hid (show RowAt (w3.setCell ⟨kn, 2, none⟩ (.string (mkS p0.2))) kn (ndc ⟨3, [], p0.2, noKids⟩) 88 from R.out.ndValue p0.2)
  replace HB := Lib.hid (HB.out.setCell (p := ⟨kn, 2, none⟩) (Nat.le_of_lt HWN.out) (.string (mkS p0.2)))
  replace HKX := Lib.hid (HKX.out.other ⟨kn, 2, none⟩ (.string (mkS p0.2)) (Nat.ne_of_lt HWN.out))
  clear d0 d1 c2 f2
  generalize w3.setCell ⟨kn, 2, none⟩ (.string (mkS p0.2)) = w4 at *
  have hcv : ¬ cv = 1 := by omega
  have HR2 := Lib.hid (show AR w4 ka kn sv (.slice (some ⟨a.block, a.off + 2, none⟩) m (cv - 1)) t from by
    have h := RP.drop (RP.below HR.out.1 HB.out (Nat.le_refl _)) (i := 1) (by rw [hLL.out]; omega)
    rw [HTL.out] at h
    refine ⟨h, ?_⟩
    refine .inr fun b e => ?_
    have hba : b = a.block := by simp only [Value.ownBlock, Option.some.injEq] at e; exact e.symm
    subst hba
    rcases HR.out.2 with h | h
    · exact absurd h HNE.out
    · obtain ⟨h1, h2, h3⟩ := h a.block rfl
      exact ⟨h1, by have := HBL.out a.block rfl; have := HWN.out; omega, h3⟩)
  have HA4 := Lib.hid (HA.out.below HB.out)
  go_upto_region 19 with (go_at_call 130; (with_reducible refine (KE.out _ kn _ w4 HA4.out HR2.out R.out rfl HKX.out e1 e2 e3 e4 e5).mono ?_); rintro e w5 ⟨sv5, rfl, ha5, hn5, hk5, hf5⟩)
  replace HKX := Lib.hid (HKX.out.an hk5 e2 e3 e5)
  replace R := Lib.hid (show RowAt w5 kn (ndc (branchN p0.2 ks)) 88 from hn5)
  have AK5 := Lib.hid (AN.ak (AK.ofBelow (ka := ka) (r := sv.ownBlock) HB.out) hk5 (Fr.refl _ _) (Nat.le_of_lt HWN.out))
  have HF := Lib.hid (show Fr w sv sv5 from fun g hg => (hf5 g hg).imp id (fun h => Nat.le_trans HB.out.size h))
  have HAX := Lib.hid ha5
  clear ha5 hn5 hk5 hf5 HA4 HR2 KE
  have cx : w5.cell? ⟨w.heap.size, 0, none⟩ = some (.pointer (some ⟨ka, 0, none⟩)) := HKX.out.cell 0
  go_wp2_with (first
    | (refine wpList_load_nd rfl _ rfl _ (branchN p0.2 ks) rfl (NdAt.ofRow R.out) ?_)
    | (go_at_call 127; (with_reducible refine (alay_any (branchN p0.2 ks) (ms) ka sv5 w5 (AS.row HAX.out) (AS.on HAX.out) hxl).mono ?_); rintro e w9 ⟨sv9, rfl, hr9, ho9, hk9, hf9⟩))
  go_ret
  exact ⟨sv9, rfl, ⟨hr9, ho9⟩, AK5.out.transF hk9 HF.out, HF.out.trans hf9 AK5.out.size⟩

set_option maxHeartbeats 8000000 in
theorem build_branchB (f : Nat) (ih : BuildC f) (p0 : Pr) (t : List Pr) (ns : List Nd) (ka : Nat) (sv v : Value) (w : World) (hs : sortP (p0 :: t)) (hh : halfP (p0 :: t)) (hz : ∀ p ∈ p0 :: t, p.1.length < f + 1) (hf : f ≤ 1000) (ht : 1 ≤ t.length) (hc0 : commonL (p0 :: t) = 0) (hl : (p0 :: t).length ≤ 1000) (hn : ns.length + f * (p0 :: t).length ≤ 500000) (he : p0.1 ≠ [])
    (ha : AS w ka sv ns) (hr : AR w ka ka sv v (p0 :: t)) : Calls Try.prog 78 #[.pointer (some ⟨ka, 0, none⟩), v] w (BuildAns ka sv (nsF f (p0 :: t) ns 16 ++ [branchN [] (padK (ksF f (p0 :: t) ns 16) 16)], ((nsF f (p0 :: t) ns 16).length : Int)) w) := by
  have hlen : (p0 :: t).length = t.length + 1 := List.length_cons
  obtain ⟨p1, z, hp1, hz1, hcm⟩ := common_ends hs hlen
  obtain rfl : p0 = p1 := by simpa using hp1
  have hsz := mk_size p0.1
  rw [hc0] at hcm
  have KS := Lib.hid (fun W => share_any (mkS p0.1) (mkS z.1) W (by rw [hsz]; have := hz p0 List.mem_cons_self; omega) (by rw [mk_size]; have := hz z (List.mem_of_getElem? hz1); omega))
  rw [shareB_mk, ← hcm] at KS
  have hll : (p0 :: t).length ≤ (p0 :: t).length := by first | exact Nat.le_refl _ | (rw [hlen]; exact Nat.le_succ _)
  have hmt : ∀ q ∈ (p0 :: t), q ∈ p0 :: t := by first | exact fun q hq => hq | exact fun q hq => List.mem_cons_of_mem _ hq
  have hkt : ∀ q ∈ (p0 :: t), 1 ≤ q.1.length := by
    first
    | exact tail_keys hs
    | exact fun q hq => by
        rcases List.mem_cons.1 hq with rfl | hq
        · exact List.length_pos_iff.2 he
        · exact tail_keys hs q hq
  have hst : sortP (p0 :: t) := by first | exact hs | exact (List.pairwise_cons.1 hs).2
  have hxl : (nsF f (p0 :: t) ns 16).length ≤ 600000 := by
    have h1 := kidsF_len f (p0 :: t) ns 16
    have h2 := Nat.mul_le_mul_left f (Nat.le_trans (cutC_sum (p0 :: t) 16) hll)
    unfold nsF
    omega
  have KE := Lib.hid (fun (nd : Nd) (kn : Nat) (v2 : Value) (W : World) (k1 : AS W ka sv ns) (k2 : AR W ka kn sv v2 (p0 :: t)) (k3 : RowAt W kn (ndc nd) 88) (k4 : nd.kids = noKids) (k5 : RowAt W w.heap.size #[.pointer (some ⟨ka, 0, none⟩)] 130) (e1 : kn ≠ ka) (e2 : w.heap.size ≠ ka) (e3 : w.heap.size ≠ kn) (e4 : sv.ownBlock ≠ some kn) (e5 : sv.ownBlock ≠ some w.heap.size) =>
    each_any f ih (p0 :: t) ns nd ka kn w.heap.size sv v2 W hst (fun q hq => hh q (hmt q hq)) hkt (fun q hq => hz q (hmt q hq)) (Nat.le_trans hll hl) (by have := Nat.mul_le_mul_left f hll; omega) hf k1 k2 k3 k4 k5 e1 e2 e3 e4 e5)
  generalize nsF f (p0 :: t) ns 16 = ms at *
  generalize padK (ksF f (p0 :: t) ns 16) 16 = ks at *
  have hbq : (mkS p0.1).toList.isEmpty = false := by rw [mkS_toList]; first | (rw [he]; rfl) | exact List.isEmpty_eq_false_iff.2 he
  have hx0 : (p0 :: t)[0]? = some p0 := rfl
  have HAL := Lib.hid ha.1.lt
  have HOW := Lib.hid ha.own
  obtain ⟨pv, cv, rfl, z1, z2⟩ := RowE.shape encP hr.1
  have HNE := Lib.hid (show (p0 :: t) ≠ [] by simp)
  have HTL := Lib.hid (show (p0 :: t).drop 1 = t from rfl)
  have HBL := Lib.hid (hr.1.blk (by simp))
  generalize hLL : (p0 :: t).length = L at *
  subst hlen
  replace hLL := Lib.hid hLL
  generalize p0 :: t = l at *
  generalize htl : t.length = m at *
  have hg1 : ¬ ((m : Int) + 1 = 1) := by omega
  have hg2 : ¬ ((m : Int) + 1 = 0) := by omega
  have hml : m + 1 ≤ 1000 := by omega
  have hm1 : 1 ≤ m := by omega
  clear hs hh hz hcm hp1 ih hn hl htl ht hll hmt hkt hst hc0 he
  have HKX := Lib.hid (RowAt.new w #[.pointer (some ⟨ka, 0, none⟩)] 130)
  have HB := Lib.hid ((Below.refl w.heap.size w).alloc (Nat.le_refl _) (.cells #[.pointer (some ⟨ka, 0, none⟩)] 130))
  have HA := Lib.hid ha
  have HR := Lib.hid hr
  clear ha hr
  obtain ⟨a, rfl, d0, d1⟩ := RP.at (RP.below HR.out.1 HB.out (Nat.le_refl _)) hx0
  obtain ⟨a', e', d2, -⟩ := RP.at (RP.below HR.out.1 HB.out (Nat.le_refl _)) hz1
  obtain rfl := Option.some.inj e'
  rw [Nat.zero_mul, Addr.add_zero'] at d0
  clear e' hz1 d1
  have D0 := Lib.hid d0
  go_enter Try.func78, Try.ntmps78
  go_upto_region 8 with (fail)
  clear d0
  generalize w.alloc (.cells #[.pointer (some ⟨ka, 0, none⟩)] 130) = w1 at *
  replace d0 := fun u : Later w1 => (u.below.cell (block_lt_of_cell D0.out)).trans D0.out
  replace d2 := fun u : Later w1 => (u.below.cell (block_lt_of_cell d2)).trans d2
  (refine region_later mix ?hB ?_; case hB => kernel_rfl); (repeat (first | go_big_quiet_step ((go_at_call 128; with_reducible exact Later.call (KS.out _))) | quiet_step ((go_at_call 128; with_reducible exact Later.call (KS.out _))))); (refine wpQuiet_nil ?_; rintro _ ⟨u, rfl⟩)
  replace HKX := Lib.hid (HKX.out.belowS u.below)
  replace HB := Lib.hid (HB.out.trans (u.below.mono HB.out.size))
  clear d0 d2 D0 KS
  generalize u.w = wu at *
  go_upto_region 15 with (first
    | (go_at_call 126; (with_reducible refine (fresh_any 3 _).mono ?_); rintro e w2 ⟨rfl, hb⟩; (replace HKX := Lib.hid (HKX.out.belowS hb); replace HB := Lib.hid (HB.out.trans (hb.mono HB.out.size)); clear hb))
    | (refine wpList_store_nd rfl _ _ rfl w2.heap.size (frN 3) rfl rfl _ (RowAt.new w2 _ _) rfl ?_; intro w3 hr3 hb3 ho3 hs3; have R := Lib.hid hr3; replace HB := Lib.hid (hb3 _ _ (HB.out.alloc HB.out.size _) HB.out.size); have HKN := Lib.hid HKX.out.lt; have HWN := Lib.hid (show w.heap.size < w2.heap.size from HKX.out.lt); replace HKX := Lib.hid (show RowAt w3 w.heap.size _ _ from (ho3 _ (Nat.ne_of_lt HKX.out.lt)).trans (HKX.out.alloc _)); clear hr3 hb3 ho3 hs3))
  generalize w2.heap.size = kn at *
  obtain ⟨a', e', d0, d1⟩ := RP.at (RP.below HR.out.1 HB.out (Nat.le_refl _)) hx0
  obtain rfl := Option.some.inj e'
  rw [Nat.zero_mul, Addr.add_zero'] at d0 d1
  clear e'
  have e5 : sv.ownBlock ≠ some w.heap.size := fun e => by have := (HOW.out _ e).2; omega
  have e4 : sv.ownBlock ≠ some kn := fun e => by have := (HOW.out _ e).2; have := HWN.out; omega
  have e2 : w.heap.size ≠ ka := fun e => by have := HAL.out; omega
  have e1 : kn ≠ ka := fun e => by have := HAL.out; have := HWN.out; omega
  have e3 : w.heap.size ≠ kn := Nat.ne_of_lt HWN.out
  clear d1
  go_upto_region 18 with (fail)
  replace R := Lib.hid (show RowAt w3 kn (ndc ⟨3, [], [], noKids⟩) 88 from R.out)
  clear d0
  generalize w3 = w4 at *
  have HR2 := Lib.hid (show AR w4 ka kn sv (.slice (some a) (m + 1) cv) l from by
    refine ⟨RP.below HR.out.1 HB.out (Nat.le_refl _), .inr fun b e => ?_⟩
    rcases HR.out.2 with h | h
    · exact absurd h HNE.out
    · obtain ⟨h1, h2, h3⟩ := h b e
      exact ⟨h1, by have := HBL.out b e; have := HWN.out; omega, h3⟩)
  have HA4 := Lib.hid (HA.out.below HB.out)
  go_upto_region 19 with (go_at_call 130; (with_reducible refine (KE.out _ kn _ w4 HA4.out HR2.out R.out rfl HKX.out e1 e2 e3 e4 e5).mono ?_); rintro e w5 ⟨sv5, rfl, ha5, hn5, hk5, hf5⟩)
  replace HKX := Lib.hid (HKX.out.an hk5 e2 e3 e5)
  replace R := Lib.hid (show RowAt w5 kn (ndc (branchN [] ks)) 88 from hn5)
  have AK5 := Lib.hid (AN.ak (AK.ofBelow (ka := ka) (r := sv.ownBlock) HB.out) hk5 (Fr.refl _ _) (Nat.le_of_lt HWN.out))
  have HF := Lib.hid (show Fr w sv sv5 from fun g hg => (hf5 g hg).imp id (fun h => Nat.le_trans HB.out.size h))
  have HAX := Lib.hid ha5
  clear ha5 hn5 hk5 hf5 HA4 HR2 KE
  have cx : w5.cell? ⟨w.heap.size, 0, none⟩ = some (.pointer (some ⟨ka, 0, none⟩)) := HKX.out.cell 0
  go_wp2_with (first
    | (refine wpList_load_nd rfl _ rfl _ (branchN [] ks) rfl (NdAt.ofRow R.out) ?_)
    | (go_at_call 127; (with_reducible refine (alay_any (branchN [] ks) (ms) ka sv5 w5 (AS.row HAX.out) (AS.on HAX.out) hxl).mono ?_); rintro e w9 ⟨sv9, rfl, hr9, ho9, hk9, hf9⟩))
  go_ret
  exact ⟨sv9, rfl, ⟨hr9, ho9⟩, AK5.out.transF hk9 HF.out, HF.out.trans hf9 AK5.out.size⟩
end Go.Proofs.Ytefmlbckbhlgdaa
namespace Go.Proofs.Ytefmlbckbhlgdaa
open Go.RowKit Go.Shelf
set_option maxRecDepth 100000
theorem valE_first {p : Pr} {t : List Pr} (h : p.1 = []) : valE (p :: t) = p.2 := by rw [valE, if_pos h]
theorem build_all : ∀ f : Nat, f ≤ 1000 → BuildC f
  | 0, _ => fun l ns ka sv v w _ _ hf _ _ ha hr => by
    cases l with
    | nil => exact build_nil ns ka sv v w ha hr
    | cons p l => exact absurd (hf p List.mem_cons_self) (by omega)
  | f + 1, hf1 => fun l ns ka sv v w hs hh hf hl hn ha hr => by
    have ih := build_all f (by omega)
    match l, hs, hh, hf, hl, hn, hr with
    | [], _, _, _, _, _, hr => exact build_nil ns ka sv v w ha hr
    | [p], _, _, _, _, hn, hr =>
      rw [layF_one]
      exact build_leaf p ns ka sv v w (by omega) ha hr
    | p :: q :: r, hs, hh, hf, hl, hn, hr =>
      rw [Nat.add_mul] at hn
      by_cases hc : 0 < commonL (p :: q :: r)
      · rw [layF_joint hc]
        exact build_joint f ih p (q :: r) ns ka sv v w hs hh hf (by omega) (by simp) hc hl (by omega) ha hr
      · rw [layF_branch hc]
        by_cases he : p.1 = []
        · have := build_branchA f ih p (q :: r) ns ka sv v w hs hh hf (by omega) (by simp) (by omega) hl (by omega) he ha hr
          rw [padK_full] at this
          rw [valE_first he, kidsF_empty he]
          exact this
        · have := build_branchB f ih p (q :: r) ns ka sv v w hs hh hf (by omega) (by simp) (by omega) hl (by omega) he ha hr
          rw [padK_full] at this
          rw [valE_none (fun x hx => by
            rcases List.mem_cons.1 hx with rfl | hx
            · exact he
            · have := tail_keys hs x hx; intro e; rw [e] at this; simp at this)]
          exact this
end Go.Proofs.Ytefmlbckbhlgdaa
namespace Go.Proofs.Ytefmlbckbhlgdaa
open Go.RowKit Go.Shelf
set_option maxRecDepth 100000
set_option maxHeartbeats 8000000 in
theorem trieOf_any (l : List Pr) (v : Value) (w : World) (h : RP w v l) (hs : sortP l) (hl : l.length ≤ 1000) (hz : ∀ p ∈ l, p.1.length ≤ 64) :
    Calls Try.prog 41 #[v] w fun e w' => ∃ u, e = .returned (.agg #[u, .int .i64 (ofT l).2]) ∧ RN w' u (ofT l).1 ∧ Below w.heap.size w w' := by
  obtain ⟨i0, hi, hz0, hz1, hz2⟩ := info_parts info_pr
  have KO := Lib.hid (fun (x : Pr) (hx : x.1.length ≤ 64) W => of_any (mkS x.1) W (by rw [mk_size]; omega))
  have hcl : (partsL l).length = l.length := List.length_map _
  have KB := Lib.hid (fun (ka : Nat) (v2 : Value) W (h1 : AS W ka (.slice none 0 0) []) (h2 : AR W ka ka (.slice none 0 0) v2 (partsL l)) => build_all 200 (by omega) (partsL l) [] ka (.slice none 0 0) v2 W (sortP_parts.2 hs) (halfP_parts l) (fun p hp => by
    obtain ⟨q, hq, rfl⟩ := List.mem_map.1 hp
    have := hz q hq
    show (ofL q.1).length < 200
    rw [ofL_length]; omega) (by rw [hcl]; exact hl) (by rw [hcl]; simp; omega) h1 h2)
  replace KB : Hid (∀ (ka : Nat) (v2 : Value) W, AS W ka (.slice none 0 0) [] → AR W ka ka (.slice none 0 0) v2 (partsL l) → Calls Try.prog 78 #[.pointer (some ⟨ka, 0, none⟩), v2] W (BuildAns ka (.slice none 0 0) (ofT l) W)) := KB
  obtain ⟨pv, cv, rfl, z1, z2⟩ := RowE.shape encP h
  have HR := Lib.hid h
  unfold maxLen at z2
  have HC := Lib.hid (fun (i : Nat) (x : Pr) (hx : l[i]? = some x) => show (partsL l)[i]? = some (ofL x.1, x.2) by unfold partsL; rw [List.getElem?_map, hx]; rfl)
  have HKE := Lib.hid (fun (i : Nat) (x : Pr) (hx : l[i]? = some x) => hz x (List.mem_of_getElem? hx))
  generalize ofT l = tr at *
  obtain ⟨ns, ix⟩ := tr
  generalize partsL l = L at *
  generalize hn : l.length = n at *
  replace hn := Lib.hid hn
  replace hcl := Lib.hid hcl
  clear h hs hz
  have R0 := Lib.hid (RowAt.new w #[.slice none 0 0, .int .i64 0] 37)
  have HBA := Lib.hid ((Below.refl w.heap.size w).alloc (Nat.le_refl _) (.cells #[.slice none 0 0, .int .i64 0] 37))
  go_enter Try.func41, Try.ntmps41
  go_upto_region 1 with (fail)
  generalize hw0 : w.alloc (.cells #[.slice none 0 0, .int .i64 0] 37) = w0 at *
  have hz0s := Lib.hid (show w0.heap.size = w.heap.size + 1 by rw [← hw0]; simp)
  clear hw0
  go_upto_region 2 with (at_make; (refine wpList_make_full _ rfl _ _ 34 rfl w0.heap.size 41 i0 _ 2 Try.underlying34 hi hz0 hz1 .i64 .i64 _ _ n rfl rfl rfl rfl (by rw [hz2]; omega) (by unfold maxLen; omega) (Nat.le_refl _) ?_); intro w1 hown hg)
  have O0 := Lib.hid (show OP w1 w0.heap.size (.slice (some ⟨w0.heap.size, 0, none⟩) n n) (fillP L 0) by
    have e : fillP L 0 = List.replicate n ([], []) := by unfold fillP; rw [List.take_zero, Nat.sub_zero, hcl.out]; rfl
    unfold OP OwnE
    rw [e, ← flat_made, List.length_replicate]
    exact hown)
  have HB0 := Lib.hid ((Below.refl w0.heap.size w0).grown hg (Nat.le_refl _) (fun k hk => by cases hk))
  clear hown hg hz0 hz1 hz2 hi i0
  go_upto_region 3 with (fail)
  go_loopw [13] (fun s wr => ∃ i : Nat, i ≤ n ∧ s = .int .i64 i ∧ Hid (OP wr w0.heap.size (.slice (some ⟨w0.heap.size, 0, none⟩) n n) (fillP L i)) ∧ Hid (Below w0.heap.size w0 wr)) (fun s _ => n - (intOf s).toNat)
  case atStart => exact ⟨0, Nat.zero_le _, rfl, O0, HB0⟩
  case round =>
    clear O0 HB0
    obtain ⟨i, hi, rfl, ho, hb⟩ := hrel
    have O := Lib.hid ho.out
    have HB := Lib.hid hb.out
    clear ho hb
    by_cases hlt : i < n
    · obtain ⟨x, hx⟩ : ∃ x, l[i]? = some x := ⟨_, List.getElem?_eq_getElem (by rw [hn.out]; exact hlt)⟩
      obtain ⟨a, rfl, c0, c1⟩ := RP.at (RP.below HR.out (HBA.out.trans (HB.out.mono HBA.out.size)) (Nat.le_refl _)) hx
      have hcx := Lib.hid (HC.out i x hx)
      have KC := Lib.hid (KO.out x (HKE.out i x hx))
      rw [ofB_mk] at KC
      obtain ⟨xk, xv⟩ := x
      simp only at c0 c1 KC
      have HA := prAlloc wr (xk, xv)
      have O1 := Lib.hid (O.out.below HA (Nat.le_refl _))
      have HB1 := Lib.hid (HB.out.trans (HA.mono HB.out.size))
      have R1 := Lib.hid (RowAt.new wr #[.string (mkS xk), .string (mkS xv)] 41)
      clear HA hx O HB
      go_upto_region 5 with (fail)
      clear c0 c1
      generalize wr.alloc (.cells #[.string (mkS xk), .string (mkS xv)] 41) = w1 at *
      generalize wr.heap.size = k1 at *
      obtain ⟨y0, y1⟩ := R1.out.drew.ic2
      have HD := Lib.hid (Below.refl w1.heap.size w1).drew
      (refine region_order [0, 1, 2, 3, 5, 6] [4, 7] 8 (LaterC w1.drew) mix ?hB ?hC ?_; case hB => kernel_rfl); (case hC => (exact Below.refl _ _)); (iterate 6 ((with_reducible refine xr_step ?_); (refine ⟨_, rfl, ?_⟩); intro K hK; go_simp; (with_reducible refine hK _ ?_); clear hK K)); (with_reducible refine xr_nil ?_); ((with_reducible refine xe_step ?_); (refine ⟨_, rfl, ?_⟩); intro K hK; unfold EX; go_simp; (go_at_call 77; (with_reducible refine (KC.out _).mono ?_); rintro e w2 ⟨rfl, hb⟩; refine ⟨_, rfl, hb, hK _ _ ?_⟩; clear hK K)); ((with_reducible refine xe_step ?_); (refine ⟨_, rfl, ?_⟩); intro K hK; unfold EX; go_simp; (refine ⟨hb, hK _ _ ?_⟩; clear hK K)); (with_reducible refine xe_nil ?_); (simp only [List.drop_succ_cons, List.drop_zero])
      have O2 := O1.out.below (HD.out.trans (hb.mono HD.out.size)) (Nat.le_refl _)
      have HB2 := HB1.out.trans ((HD.out.trans (hb.mono HD.out.size)).mono HB1.out.size)
      clear O1 HB1 y0 y1 R1 HD hb
      obtain ⟨g, eg, -, -, hcell, hfr, hset⟩ := OwnE.at (E := encP) O2 (fillP_at L i (by rw [hcl.out]; exact hlt))
      obtain rfl : w0.heap.size = g := by injection eg with eg; injection eg
      have m0 : w2.cell? ⟨w0.heap.size, i * 2, none⟩ = some (.string (mkS [])) := hcell 0 _ rfl
      have m1 : w2.cell? ⟨w0.heap.size, i * 2 + 1, none⟩ = some (.string (mkS [])) := hcell 1 _ rfl
      have f0 := hfr (i * 2)
      have f1 := hfr (i * 2 + 1)
      have O3 := Lib.hid (show OP ((w2.setCell ⟨w0.heap.size, i * 2, none⟩ (.string (mkS (ofL xk)))).setCell ⟨w0.heap.size, i * 2 + 1, none⟩ (.string (mkS xv))) w0.heap.size (.slice (some ⟨w0.heap.size, 0, none⟩) n n) (fillP L (i + 1)) by
        rw [← fillP_set L i _ hcx.out]
        exact hset (ofL xk, xv) w2 (fun C h => h))
      have HB3 := Lib.hid ((HB2.setCell (p := ⟨w0.heap.size, i * 2, none⟩) (Nat.le_refl _) (.string (mkS (ofL xk)))).setCell (p := ⟨w0.heap.size, i * 2 + 1, none⟩) (Nat.le_refl _) (.string (mkS xv)))
      clear hcell hfr hset eg O2 HB2
      go_wp2
      exact ⟨⟨i + 1, by omega, by simp, O3, HB3⟩, by simp [intOf]; omega⟩
    · obtain rfl : i = n := by omega
      have HRP := Lib.hid (OwnE.row encP O.out)
      have ef : fillP L i = L := by rw [← hcl.out]; exact fillP_all L
      rw [ef] at HRP
      have R1 := Lib.hid ((R0.out.belowS HB.out).alloc (.cells #[.slice none 0 0] 132))
      have HBW := Lib.hid ((HBA.out.trans (HB.out.mono HBA.out.size)).alloc (HBA.out.trans (HB.out.mono HBA.out.size)).size (.cells #[.slice none 0 0] 132))
      have HS := Lib.hid (show AS (wr.alloc (.cells #[.slice none 0 0] 132)) wr.heap.size (.slice none 0 0) [] from ⟨RowAt.new _ _ _, OwnE.nil encN _ _ _⟩)
      have HAR := Lib.hid (show AR (wr.alloc (.cells #[.slice none 0 0] 132)) wr.heap.size wr.heap.size (.slice none 0 0) (.slice (some ⟨w0.heap.size, 0, none⟩) i i) L from by
        refine ⟨RP.below HRP.out ((Below.refl wr.heap.size wr).alloc (Nat.le_refl _) _) (Nat.le_refl _), ?_⟩
        by_cases hL : L = []
        · exact .inl hL
        · refine .inr fun b e => ?_
          have := RP.blk HRP.out hL b e
          exact ⟨by omega, by omega, by simp [Value.ownBlock]⟩)
      have HK0 := Lib.hid (show w.heap.size < wr.heap.size from by have := R0.out.lt; have := HB.out.size; omega)
      clear O HB HRP HBA R0 KO
      go_upto_region 9 with (go_at_call 78; (with_reducible refine (KB.out _ _ _ HS.out HAR.out).mono ?_); rintro e w6 ⟨sv6, rfl, ha6, hk6, hf6⟩)
      have R6 := Lib.hid (R1.out.ak hk6 (by have := HK0.out; omega) (by simp [Value.ownBlock]))
      have HBF := Lib.hid (hk6.below HBW.out HBW.out.size (Nat.le_of_lt HK0.out) (fun g e => by simp [Value.ownBlock] at e))
      have HON := Lib.hid ha6.2
      have HAR6 := Lib.hid ha6.1
      have HAP := Lib.hid (show Apart sv6 ns w.heap.size from .inr fun e => by have := (ha6.own _ e).1; have := HK0.out; omega)
      clear ha6 hk6 hf6 R1 HBW HS HAR KB
      obtain ⟨p6, c6, rfl, z5, z6⟩ := RowE.shape encN (OwnE.row encN HON.out)
      have cA : w6.cell? ⟨wr.heap.size, 0, none⟩ = some (.slice p6 ns.length c6) := HAR6.out.cell 0
      obtain ⟨y0, y1, yf0, yf1⟩ := R6.out.c2
      have R7 := R6.out.set 0 (.slice p6 ns.length c6) (cs' := #[.slice p6 ns.length c6, .int .i64 0]) rfl
      obtain ⟨m0, m1, -, -⟩ := (R7.set 1 (.int .i64 ix) (cs' := #[.slice p6 ns.length c6, .int .i64 ix]) rfl).c2
      clear R7
      have HB1 := Lib.hid ((HBF.out.setCell (p := ⟨w.heap.size, 0, none⟩) (Nat.le_refl _) (.slice p6 ns.length c6)).setCell (p := ⟨w.heap.size, 1, none⟩) (Nat.le_refl _) (.int .i64 ix))
      have H4 := Lib.hid ((RN.set (OwnE.row encN HON.out) HAP.out 0 (.slice p6 ns.length c6)).set HAP.out 1 (.int .i64 ix))
      go_wp2
      refine bodyPost_ret (v := .agg #[.slice p6 ns.length c6, .int .i64 ix]) (by simp [results, Try.results41, go_sem, m0, m1]) rfl ?_
      exact ⟨_, rfl, H4.out, HB1.out⟩
end Go.Proofs.Ytefmlbckbhlgdaa
namespace Go.Proofs.Ytefmlbckbhlgdaa
open Go.RowKit Go.Shelf
set_option maxRecDepth 100000
set_option maxHeartbeats 2000000 in
theorem key_yesW (s : ByteArray) (w : World) (hs : s.size ≤ 281474976710656) (h : rightB s = true) (hp : s.size % 2 = 0) :
    Calls Try.prog 70 #[.string s] w fun e w' => e = .returned (.tuple #[.string (joinB s), .int .i64 0]) ∧ Below w.heap.size w w' := by
  have HR := Lib.hid h
  have e1 : ((s.size : Int) % 2) = 0 := by omega
  clear h hp
  go_enter Try.func70, Try.ntmps70
  go_wp2_with (first
    | (go_at_call 121; refine (right_yes _ _ (by omega) HR.out).mono ?_; rintro e w1 ⟨rfl, rfl⟩)
    | (go_at_call 122; refine (join_any _ _ (by omega) (by omega)).mono ?_; rintro e w1 ⟨rfl, hb1⟩))
  go_ret2
  exact ⟨rfl, hb1⟩

set_option maxHeartbeats 2000000 in
theorem key_noW (s : ByteArray) (w : World) (hs : s.size ≤ 281474976710656) (h : rightB s = false ∨ (rightB s = true ∧ s.size % 2 = 1)) :
    Calls Try.prog 70 #[.string s] w fun e w' => e = .returned (.tuple #[.string ⟨#[]⟩, .int .i64 1]) ∧ Below w.heap.size w w' := by
  rcases h with h | ⟨h, hp⟩
  · have HR := Lib.hid h
    clear h
    go_enter Try.func70, Try.ntmps70
    go_wp2_with (first
      | (go_at_call 121; refine (right_no _ _ (by omega) HR.out).mono ?_; rintro e w1 ⟨rfl, rfl⟩))
    go_ret2
    exact ⟨rfl, Below.refl _ _⟩
  · have HR := Lib.hid h
    have e1 : ((s.size : Int) % 2) = 1 := by omega
    clear h hp
    go_enter Try.func70, Try.ntmps70
    go_wp2_with (first
      | (go_at_call 121; refine (right_yes _ _ (by omega) HR.out).mono ?_; rintro e w1 ⟨rfl, rfl⟩))
    go_ret2
    exact ⟨rfl, Below.refl _ _⟩

def partOk (p : List UInt8) : Bool := p.all (· < 16) && p.length % 2 == 0
theorem rightB_mk (p : List UInt8) : rightB (mkS p) = p.all (· < 16) := by
  unfold rightB
  show (bl (mkS p)).all _ = _
  rw [bl_mk]
theorem joinB_mk (p : List UInt8) : joinB (mkS p) = mkS (joinL p) := by
  unfold joinB
  show mkS (joinL (bl (mkS p))) = _
  rw [bl_mk]
theorem key_any (p : List UInt8) (w : World) (hs : p.length ≤ 281474976710656) :
    Calls Try.prog 70 #[.string (mkS p)] w fun e w' => e = .returned (.tuple #[.string (mkS (keyP p)), .int .i64 (if partOk p then 0 else 1)]) ∧ Below w.heap.size w w' := by
  by_cases h1 : p.all (· < 16) = true
  · by_cases h2 : p.length % 2 = 0
    · have := key_yesW (mkS p) w (by rw [mk_size]; exact hs) (by rw [rightB_mk]; exact h1) (by rw [mk_size]; exact h2)
      unfold keyP partOk
      rw [h1, h2]
      rw [joinB_mk] at this
      exact this
    · have := key_noW (mkS p) w (by rw [mk_size]; exact hs) (.inr ⟨by rw [rightB_mk]; exact h1, by rw [mk_size]; omega⟩)
      have e : (p.length % 2 == 0) = false := by simpa using h2
      unfold keyP partOk
      rw [h1, e]
      exact this
  · have h1' : p.all (· < 16) = false := by simpa using h1
    have := key_noW (mkS p) w (by rw [mk_size]; exact hs) (.inl (by rw [rightB_mk]; exact h1'))
    unfold keyP partOk
    rw [h1']
    exact this
end Go.Proofs.Ytefmlbckbhlgdaa
namespace Go.Proofs.Ytefmlbckbhlgdaa
open Go.RowKit Go.Shelf
set_option maxRecDepth 100000
theorem wpList_append_onePr {ops : Array Oper} {rest : List Oper} {o : Oper} {a : Act} {Q : Exit → Act → World → Prop} {w : World} (hgd : o.guard = Option.none) (s x : Operand)
    (ho : o.op = .call { callee := .builtin .append, args := #[s, x], argTypes := #[34, 34] }) (base : Nat) (v : Value) (l : List Pr) (hs : a.eval s = v) (hown : OP w base v l)
    (k : Nat) (y : Pr) (hx : a.eval x = .slice (some ⟨k, 0, none⟩) 1 1) (hc : RowAt w k #[.string (mkS y.1), .string (mkS y.2)] 41) (hb : l.length ≤ 600000) (hbase : base ≤ w.heap.size)
    (h : ∀ v' w', OP w' base v' (l ++ [y]) → w.grownBy w' v.ownBlock → (∀ g, v'.ownBlock = some g → v.ownBlock = some g ∨ w.heap.size ≤ g) → wpList Try.prog ops Q rest (a.put o.dst v') w') : wpList Try.prog ops Q (o :: rest) a w := by
  obtain ⟨v', w', hr, h1, h2, h3⟩ := run_append_oneE encP Try.underlying34 info_pr rfl w o.type base v l hown ⟨k, 0, none⟩ y (fun j u hj => by
    have hadd : (⟨k, 0, none⟩ : Addr).add j = ⟨k, j, none⟩ := by unfold Addr.add; split <;> simp_all
    rw [hadd, hc.cell]
    simpa [encP] using hj) (by unfold maxLen; omega) (by omega) hbase
  refine wpList_plain hgd fun _ hK => ?_
  unfold Oper.wp execOp
  simp only [ho, resolve, invoke, builtin, Sem.run_bind, Sem.run_pure, Result.andThen_ok, List.map_toArray, List.map_cons, List.map_nil, hs, hx, hr]
  exact hK _ _ (h v' w' h1 h2 h3)

/-- The row of pairs that the walk fills. -/
def OS (w : World) (ko : Nat) (sv : Value) (out : List Pr) : Prop := RowAt w ko #[sv] 34 ∧ OP w (ko + 1) sv out
theorem OS.row {w : World} {ko : Nat} {sv : Value} {out : List Pr} (h : OS w ko sv out) : RowAt w ko #[sv] 34 := h.1
theorem OS.op {w : World} {ko : Nat} {sv : Value} {out : List Pr} (h : OS w ko sv out) : OP w (ko + 1) sv out := h.2
theorem OS.below {w w' : World} {ko : Nat} {sv : Value} {out : List Pr} (h : OS w ko sv out) (hb : Below w.heap.size w w') : OS w' ko sv out := ⟨h.1.belowS hb, h.2.below hb (Nat.le_refl _)⟩
theorem OS.own {w : World} {ko : Nat} {sv : Value} {out : List Pr} (h : OS w ko sv out) : ∀ g, sv.ownBlock = some g → ko + 1 ≤ g ∧ g < w.heap.size := fun g e => World.ownsRow.lt h.2 g e
/-- What a call that fills the row answers. -/
def FillAns (ko : Nat) (sv : Value) (r : List Pr × Bool) (w : World) (e : Ending) (w' : World) : Prop := ∃ sv', e = .returned (.bool r.2) ∧ OS w' ko sv' r.1 ∧ AK ko sv.ownBlock w w' ∧ Fr w sv sv'

theorem yield_ok (out : List Pr) (p v : List UInt8) : (yieldL out p v).2 = (partOk p && (mayP (keyP p, v) && decide (out.length + 1 ≤ 64))) := by
  unfold yieldL okP partOk mayP keyP
  cases h : (p.all (· < 16) && p.length % 2 == 0)
  · simp
  · simp

set_option maxHeartbeats 8000000 in
theorem yield_any (p v : List UInt8) (out : List Pr) (ko : Nat) (sv : Value) (w : World) (hs : OS w ko sv out) (hp : p.length ≤ 281474976710656) (ho : out.length ≤ 64) :
    Calls Try.prog 69 #[.string (mkS p), .string (mkS v), .pointer (some ⟨ko, 0, none⟩)] w (FillAns ko sv (yieldL out p v) w) := by
  have KK := Lib.hid (fun W => key_any p W hp)
  have KM := Lib.hid (fun W => may_any (keyP p) v W)
  have HY := Lib.hid (yield_ok out p v)
  have HO1 := Lib.hid (show (yieldL out p v).1 = out ++ [(keyP p, v)] from rfl)
  generalize yieldL out p v = r at *
  obtain ⟨r1, r2⟩ := r
  simp only at HY HO1
  have hr1 := HO1.out
  subst hr1
  clear HO1
  generalize keyP p = kp at *
  generalize mayP (kp, v) = mb at *
  obtain ⟨q, c, rfl, z1, z2⟩ := OP.shape hs.2
  unfold maxLen at z2
  have HS := Lib.hid hs
  clear hs
  cases hb : partOk p
  all_goals
    rw [hb] at HY KK
    simp only [Bool.false_eq_true, if_false, if_true, Bool.true_and, Bool.false_and] at HY KK
    go_enter Try.func69, Try.ntmps69
    go_upto_region 2 with (go_at_call 70; (with_reducible refine (KK.out _).mono ?_); rintro e w1 ⟨rfl, hb1⟩; have HB := Lib.hid hb1; clear hb1)
    have c0 : w1.cell? ⟨ko, 0, none⟩ = some (.slice q out.length c) := (HS.out.1.belowS HB.out).cell 0
    have O2 := Lib.hid ((HS.out.below HB.out).op.below (prAlloc w1 (kp, v)) (Nat.le_refl _))
    have R2 := Lib.hid ((HS.out.1.belowS HB.out).alloc (prO (kp, v)))
    have HK2 := Lib.hid (Nat.le_trans HS.out.1.lt (Nat.le_trans HB.out.size (prAlloc w1 (kp, v)).size))
    have AK2 := Lib.hid (AK.ofBelow (ka := ko) (r := (Value.slice q out.length c).ownBlock) (HB.out.trans ((prAlloc w1 (kp, v)).mono HB.out.size)))
    have HOWN := Lib.hid (HS.out.own)
    go_upto_region 3 with (at_builtin; refine wpList_append_onePr rfl _ _ rfl (ko + 1) _ out rfl O2.out w1.heap.size (kp, v) rfl (RowAt.new w1 _ _) (by omega) HK2.out ?_; intro v3 w3 ho3 hg3 hn3; have O3 := Lib.hid (show OP w3 (ko + 1) v3 (out ++ [(kp, v)]) from ho3); have R3 := Lib.hid (R2.out.grown hg3 (fun e => by have := (HOWN.out ko e.symm).1; omega)); have AK3 := Lib.hid (AK2.out.trans (AK.ofGrown (ka := ko) hg3) (fun g e => .inl e)); have HN := Lib.hid (show Fr w (Value.slice q out.length c) v3 from fun g e => (hn3 g e).imp id (fun h => Nat.le_trans AK2.out.size h)); clear ho3 hg3 hn3 O2 R2 AK2 c0; obtain ⟨q3, c3, rfl, z3, z4⟩ := OP.shape O3.out; have c0 : w3.cell? ⟨ko, 0, none⟩ = some (.slice q out.length c) := R3.out.cell 0; have f0 := R3.out.frozen 0)
    simp only [List.length_append, List.length_singleton] at *
    have R4 := Lib.hid (R3.out.set 0 (.slice q3 (out.length + 1) c3) (cs' := #[.slice q3 (out.length + 1) c3]) rfl)
    have AK4 := Lib.hid (AK3.out.same (AK.set 0 (.slice q3 (out.length + 1) c3)))
    have O4 := Lib.hid (show OP (w3.setCell ⟨ko, 0, none⟩ (.slice q3 (out.length + 1) c3)) (ko + 1) (.slice q3 (out.length + 1) c3) (out ++ [(kp, v)]) from ownsRow_setCell_below O3.out (by simp) _)
    clear R3 AK3 O3 c0 f0
    generalize w3.setCell ⟨ko, 0, none⟩ (.slice q3 (out.length + 1) c3) = w4 at *
    have c0 : w4.cell? ⟨ko, 0, none⟩ = some (.slice q3 (out.length + 1) c3) := R4.out.cell 0
    unfold maxLen at z4
  · have hr := HY.out
    go_wp2
    go_ret
    exact ⟨_, by rw [hr]; rfl, ⟨R4.out, O4.out⟩, AK4.out, HN.out⟩
  · cases mb
    · have hr := HY.out
      go_wp2_with (go_at_call 39; (with_reducible refine (KM.out _).mono ?_); rintro e w5 ⟨rfl, rfl⟩)
      go_ret
      exact ⟨_, by rw [hr]; rfl, ⟨R4.out, O4.out⟩, AK4.out, HN.out⟩
    · by_cases h64 : out.length + 1 ≤ 64
      · have hr := HY.out
        rw [decide_eq_true h64] at hr
        have h64i : (out.length : Int) + 1 ≤ 64 := by omega
        clear h64
        go_wp2_with (go_at_call 39; (with_reducible refine (KM.out _).mono ?_); rintro e w5 ⟨rfl, rfl⟩)
        go_ret
        exact ⟨_, by rw [hr]; rfl, ⟨R4.out, O4.out⟩, AK4.out, HN.out⟩
      · have hr := HY.out
        rw [decide_eq_false h64] at hr
        have h64i : decide ((out.length : Int) + 1 ≤ 64) = false := decide_eq_false (by omega)
        clear h64
        go_wp2_with (go_at_call 39; (with_reducible refine (KM.out _).mono ?_); rintro e w5 ⟨rfl, rfl⟩)
        go_ret
        exact ⟨_, by rw [hr]; rfl, ⟨R4.out, O4.out⟩, AK4.out, HN.out⟩
end Go.Proofs.Ytefmlbckbhlgdaa

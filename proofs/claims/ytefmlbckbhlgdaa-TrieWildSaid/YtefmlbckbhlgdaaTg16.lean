/- The law's model, walked. -/
import Derived.Test.YtefmlbckbhlgdaaTg15
namespace Go.Proofs.Ytefmlbckbhlgdaa
open Go.RowKit Go.Shelf
set_option maxRecDepth 100000
theorem TrA.of {w : World} {u : Value} {t : List Nd × Int} (h : RN w u t.1) : TrA w (.agg #[u, .int .i64 t.2]) t := ⟨u, rfl, h⟩
theorem extract_min (s : List UInt8) (m : Nat) (k : Nat) (h : k = min s.length m) : (mkS s).extract 0 k = mkS (s.take m) := by
  rw [mkS_take, h]
  congr 1
  rw [List.take_eq_take_iff]; omega
def ModelAns (L : List Pr) (w : World) (e : Ending) (w' : World) : Prop := ∃ lv u, e = .returned (.tuple #[lv, .agg #[u, .int .i64 (ofT L).2], .bool true]) ∧ RP w' lv L ∧ RN w' u (ofT L).1 ∧ Below w.heap.size w w'

set_option maxHeartbeats 16000000 in
theorem model_any (acts : List Pr) (v : Value) (w : World) (h : RP w v acts) (hz : ∀ a ∈ acts, a.1.length ≤ 140737488351232 ∧ a.2.length ≤ 140737488351232) :
    Calls Try.prog 11 #[v] w (ModelAns (modelL acts) w) := by
  have KN := Lib.hid trNew_any
  have HFT := Lib.hid (fun i x => @foldl_take acts i x)
  have HFS := Lib.hid (fun i => @foldl_stop acts i)
  have HZ := Lib.hid (fun (i : Nat) (x : Pr) (hx : acts[i]? = some x) => hz x (List.mem_of_getElem? hx))
  obtain ⟨pv, cv, rfl, z1, z2⟩ := RowE.shape encP h
  have HV := Lib.hid h
  generalize hML : modelL acts = ML at *
  replace hML := Lib.hid hML
  have HFZ : Hid ([] = (acts.take 0).foldl actF []) := Lib.hid rfl
  clear h hz
  generalize hn : acts.length = n at *
  replace hn := Lib.hid hn
  go_enter Try.func11, Try.ntmps11
  go_upto_region 3 with (go_at_call 33; (with_reducible refine (KN.out _).mono ?_); rintro e w2 ⟨rfl, hb⟩; have HB1 := Lib.hid (((Below.refl w.heap.size w).alloc (Nat.le_refl _) (.cells #[.slice none 0 0, .int .i64 0] 37)).trans (hb.mono (by simp))); have R0 := Lib.hid ((RowAt.new w #[.slice none 0 0, .int .i64 0] 37).belowS hb); clear hb)
  have RT := Lib.hid (RowAt.new w2 #[.slice none 0 0, .int .i64 (-1)] 37)
  have HKT := Lib.hid (show w.heap.size < w2.heap.size from R0.out.lt)
  replace R0 := Lib.hid (R0.out.alloc (.cells #[.slice none 0 0, .int .i64 (-1)] 37))
  have HB := Lib.hid (HB1.out.alloc HB1.out.size (.cells #[.slice none 0 0, .int .i64 (-1)] 37))
  clear HB1 KN
  go_upto_region 4 with (fail)
  generalize w2.alloc (.cells #[.slice none 0 0, .int .i64 (-1)] 37) = w3 at *
  generalize w2.heap.size = kt at *
  go_loopw [5, 21] (fun s5 s21 wr => ∃ (i : Nat) (l : List Pr) (t : List Nd × Int) (u : Value), i ≤ n ∧ i ≤ 90 ∧ s21 = .int .i64 i ∧ Hid (l = (acts.take i).foldl actF []) ∧ Hid (t = ofT l) ∧ Hid (Pairs l) ∧ Hid (RP wr s5 l) ∧ Hid (RowAt wr kt #[u, .int .i64 t.2] 37) ∧ Hid (RN wr u t.1) ∧ Hid (RowAt wr w.heap.size #[.slice none 0 0, .int .i64 0] 37) ∧ Hid (Below w.heap.size w wr)) (fun _ s _ => 90 - (intOf s).toNat)
  case atStart => exact ⟨0, [], ([], -1), .slice none 0 0, Nat.zero_le _, by omega, rfl, HFZ, Lib.hid rfl, Lib.hid Pairs.nil, Lib.hid (.inl ⟨rfl, rfl⟩), RT, Lib.hid (.inl ⟨rfl, rfl⟩), R0, HB⟩
  case round =>
    clear HFZ RT R0 HB
    obtain ⟨i, l, t, u, hin, hi90, rfl, hl1, ht1, hp1, hr1, hrt1, hu1, hr01, hb1⟩ := hrel
    have HLI := Lib.hid hl1.out
    have HT := Lib.hid ht1.out
    have HP := Lib.hid hp1.out
    have HL := Lib.hid hr1.out
    have RT := Lib.hid hrt1.out
    have HU := Lib.hid hu1.out
    have R0 := Lib.hid hr01.out
    have HB := Lib.hid hb1.out
    clear hl1 ht1 hp1 hr1 hrt1 hu1 hr01 hb1
    by_cases hlt : i < n
    · obtain ⟨x, hx⟩ : ∃ x, acts[i]? = some x := ⟨_, List.getElem?_eq_getElem (by rw [hn.out]; exact hlt)⟩
      have HS := Lib.hid (show actF l x = (acts.take (i + 1)).foldl actF [] by rw [HFT.out i x hx, ← HLI.out])
      obtain ⟨a, rfl, c0, c1⟩ := RP.at (RP.below HV.out HB.out (Nat.le_refl _)) hx
      obtain ⟨hz1, hz2⟩ := HZ.out i x hx
      obtain ⟨ak, av⟩ := x
      simp only at c0 c1 hz1 hz2
      have HA := Lib.hid ((Below.refl wr.heap.size wr).alloc (Nat.le_refl _) (.cells #[.string (mkS ak), .string (mkS av)] 76))
      have R8 := Lib.hid (RowAt.new wr #[.string (mkS ak), .string (mkS av)] 76)
      replace HL := Lib.hid (RP.below HL.out HA.out (Nat.le_refl _))
      replace RT := Lib.hid (RT.out.belowS HA.out)
      replace HU := Lib.hid (RN.below HU.out HA.out (Nat.le_refl _))
      replace R0 := Lib.hid (R0.out.belowS HA.out)
      replace HB := Lib.hid (HB.out.trans (HA.out.mono HB.out.size))
      clear hx HA
      by_cases h90 : i < 90
      · go_upto_region 7 with (fail)
        clear c0 c1
        generalize wr.alloc (.cells #[.string (mkS ak), .string (mkS av)] 76) = w4 at *
        generalize wr.heap.size = k8 at *
        obtain ⟨y0, y1, -, -⟩ := R8.out.c2
        obtain ⟨km, hkm⟩ : ∃ m, min ak.length 40 = m := ⟨_, rfl⟩
        obtain ⟨vm, hvm⟩ : ∃ m, min av.length 600 = m := ⟨_, rfl⟩
        have e1 := extract_min ak 40 km hkm.symm
        have e2 := extract_min av 600 vm hvm.symm
        have z3 := mk_size ak
        have z4 := mk_size av
        have q1 : min (ak.length : Int) 40 = km := by omega
        have q2 : min (av.length : Int) 600 = vm := by omega
        have b1 : (km : Int) ≤ ak.length := by omega
        have b2 : (vm : Int) ≤ av.length := by omega
        have b3 : km ≤ ak.length := by omega
        have b4 : vm ≤ av.length := by omega
        have hkl : (keyA (ak, av)).length ≤ 40 := by unfold keyA; rw [List.length_take]; omega
        have hvl : (valA (ak, av)).length ≤ 600 := by unfold valA; rw [List.length_take]; omega
        have HS2 := Lib.hid (show actF l (ak, av) = if valA (ak, av) = [] then delL (keyA (ak, av)) l else if mayP (keyA (ak, av), valA (ak, av)) && ((getL (keyA (ak, av)) l).isSome || decide (l.length < 64)) then putL (keyA (ak, av)) (valA (ak, av)) l else l from rfl)
        rw [HS.out] at HS2
        replace e1 : (mkS ak).extract 0 km = mkS (keyA (ak, av)) := e1
        replace e2 : (mkS av).extract 0 vm = mkS (valA (ak, av)) := e2
        generalize keyA (ak, av) = key at *
        generalize valA (ak, av) = val at *
        clear hkm hvm HS
        (refine region_tail 15 mix ?hB ?_; case hB => kernel_rfl); (simp only [List.take_succ_cons, List.take_zero, List.drop_succ_cons, List.drop_zero]; (iterate 15 (with_reducible refine wpStill_step ?_; intro K hK; go_simp; with_reducible refine hK _ ?_; clear hK K)); with_reducible refine wpStill_nil ?_)
        replace HL := Lib.hid (RP.below HL.out (Below.refl w4.heap.size w4).drew (Nat.le_refl _))
        replace RT := Lib.hid RT.out.drew
        replace HU := Lib.hid (RN.below HU.out (Below.refl w4.heap.size w4).drew (Nat.le_refl _))
        replace R0 := Lib.hid R0.out.drew
        replace HB := Lib.hid HB.out.drew
        clear R8 y0 y1 e1 e2 z3 z4 q1 q2 b1 b2 b3 b4
        obtain ⟨pU, cU, rfl, zU1, zU2⟩ := RowE.shape encN HU.out
        obtain ⟨p5, c5, rfl, -, -⟩ := RowE.shape encP HL.out
        have hpt : pairsT t = (l, true) := by rw [HT.out]; exact pairsT_of HP.out
        have htok : TOk t := by rw [HT.out]; exact ofT_ok HP.out
        have hl64 := HP.out.2.2
        have KG := Lib.hid (fun u W (h : RP W u l) => rget_any key u l W h)
        have KD := Lib.hid (fun v W (h : TrA W v t) => trDel_any t htok key v W h)
        have KP := Lib.hid (fun v W (h : TrA W v t) => trPut_any t htok key val v W h)
        have KM := Lib.hid (fun W => rmay_any key val W)
        have KRD := Lib.hid (fun u W (h : RP W u l) => rdel_any key u l W h (by omega))
        have KRP := Lib.hid (fun u W (h : RP W u l) => rput_any key val u l W h (by omega) HP.out.1)
        have KLK := Lib.hid (fun u W (h : RN W u zT.1) => rlike_any zT.1 [] zT.2 0 u (.slice none 0 0) W h (.inl ⟨rfl, rfl⟩))
        rw [show likeT zT.1 zT.2 [] 0 = true from rfl] at KLK
        have HPD := Lib.hid (HP.out.del (k := key))
        unfold delR at KD
        unfold putR at KP
        simp only [hpt, if_true, Bool.true_and] at KD KP
        clear hpt htok
        generalize w4.drew = w5 at *
        by_cases hv : val = []
        · rw [if_pos hv] at HS2
          have hve : (mkS val).toList.isEmpty = true := by rw [mkS_toList, hv]; rfl
          clear KM KP KRP hv
          cases hg : getL key l with
          | none =>
            rw [hg] at KG KD
            have HLI2 := Lib.hid (show l = (acts.take (i + 1)).foldl actF [] from by rw [HS2.out, delL_not hg])
            simp only [Option.isSome_none, Bool.false_eq_true, if_false] at KG KD
            clear HS2 hg KRD HPD
            obtain ⟨t0, t1, -, -⟩ := RT.out.c2
            go_upto_region 11 with (first | (go_at_call 34; (with_reducible refine (KG.out _ _ HL.out).mono ?_); rintro e w6 ⟨rfl, hb⟩; replace HL := Lib.hid (RP.below HL.out hb (Nat.le_refl _)); replace RT := Lib.hid (RT.out.belowS hb); replace HU := Lib.hid (RN.below HU.out hb (Nat.le_refl _)); replace R0 := Lib.hid (R0.out.belowS hb); replace HB := Lib.hid (HB.out.trans (hb.mono HB.out.size)); clear hb KG t0 t1; obtain ⟨t0, t1, -, -⟩ := RT.out.c2) | (go_at_call 15; (with_reducible refine (KM.out _).mono ?_); rintro e w9 ⟨rfl, rfl⟩) | (go_at_call 16; (with_reducible refine (KD.out (.agg #[.slice pU t.1.length cU, .int .i64 t.2]) _ (TrA.of HU.out)).mono ?_); rintro e w7 ⟨v7, rfl, ⟨u7, rfl, hu7⟩, hb⟩; have HU7 := Lib.hid hu7; clear hu7; replace HL := Lib.hid (RP.below HL.out hb (Nat.le_refl _)); replace RT := Lib.hid (RT.out.belowS hb); replace HU := Lib.hid (RN.below HU.out hb (Nat.le_refl _)); replace R0 := Lib.hid (R0.out.belowS hb); replace HB := Lib.hid (HB.out.trans (hb.mono HB.out.size)); clear hb; obtain ⟨p7, c7, rfl, -, -⟩ := RowE.shape encN HU7.out))
            clear t0 t1
            have hb := (Below.refl w7.heap.size w7).alloc (Nat.le_refl _) (.cells #[.slice p7 zT.1.length c7, .int .i64 zT.2] 37)
            have R9 := Lib.hid (RowAt.new w7 #[.slice p7 zT.1.length c7, .int .i64 zT.2] 37)
            replace HU7 := Lib.hid (RN.below HU7.out hb (Nat.le_refl _))
            replace HL := Lib.hid (RP.below HL.out hb (Nat.le_refl _))
            replace RT := Lib.hid (RT.out.belowS hb)
            replace HU := Lib.hid (RN.below HU.out hb (Nat.le_refl _))
            replace R0 := Lib.hid (R0.out.belowS hb)
            replace HB := Lib.hid (HB.out.trans (hb.mono HB.out.size))
            clear hb
            generalize w7.alloc (.cells #[.slice p7 zT.1.length c7, .int .i64 zT.2] 37) = w9 at *
            generalize w7.heap.size = k9 at *
            obtain ⟨x0, x1, -, -⟩ := R9.out.c2
            go_wp2_with (go_at_call 17; (with_reducible refine (KLK.out _ w9 HU7.out).mono ?_); rintro e w10 ⟨rfl, hb⟩; replace HL := Lib.hid (RP.below HL.out hb (Nat.le_refl _)); replace RT := Lib.hid (RT.out.belowS hb); replace HU := Lib.hid (RN.below HU.out hb (Nat.le_refl _)); replace R0 := Lib.hid (R0.out.belowS hb); replace HB := Lib.hid (HB.out.trans (hb.mono HB.out.size)); clear hb)
            exact ⟨⟨i + 1, l, t, .slice pU t.1.length cU, by omega, by omega, by simp, HLI2, HT, HP, HL, RT, HU, R0, HB⟩, by simp [intOf]; omega⟩
          | some old =>
            rw [hg] at KG KD
            simp only [Option.isSome_some, if_true] at KG KD
            have HT2 : Hid (ofT (delL key l) = ofT (delL key l)) := Lib.hid rfl
            generalize hl2 : delL key l = l2 at *
            have HLI2 := Lib.hid HS2.out.symm
            have HP2 := HPD
            generalize ht2 : ofT l2 = t2 at *
            replace HT2 := Lib.hid ht2.symm
            clear HS2 hg hl2 ht2 HPD
            obtain ⟨t0, t1, -, -⟩ := RT.out.c2
            go_upto_region 11 with (first | (go_at_call 34; (with_reducible refine (KG.out _ _ HL.out).mono ?_); rintro e w6 ⟨rfl, hb⟩; replace HL := Lib.hid (RP.below HL.out hb (Nat.le_refl _)); replace RT := Lib.hid (RT.out.belowS hb); replace HU := Lib.hid (RN.below HU.out hb (Nat.le_refl _)); replace R0 := Lib.hid (R0.out.belowS hb); replace HB := Lib.hid (HB.out.trans (hb.mono HB.out.size)); clear hb KG t0 t1; obtain ⟨t0, t1, -, -⟩ := RT.out.c2) | (go_at_call 15; (with_reducible refine (KM.out _).mono ?_); rintro e w9 ⟨rfl, rfl⟩) | (go_at_call 16; (with_reducible refine (KD.out (.agg #[.slice pU t.1.length cU, .int .i64 t.2]) _ (TrA.of HU.out)).mono ?_); rintro e w7 ⟨v7, rfl, ⟨u7, rfl, hu7⟩, hb⟩; have HU7 := Lib.hid hu7; clear hu7; replace HL := Lib.hid (RP.below HL.out hb (Nat.le_refl _)); replace RT := Lib.hid (RT.out.belowS hb); replace HU := Lib.hid (RN.below HU.out hb (Nat.le_refl _)); replace R0 := Lib.hid (R0.out.belowS hb); replace HB := Lib.hid (HB.out.trans (hb.mono HB.out.size)); clear hb; obtain ⟨p7, c7, rfl, -, -⟩ := RowE.shape encN HU7.out))
            clear t0 t1
            have hb := (Below.refl w7.heap.size w7).alloc (Nat.le_refl _) (.cells #[.slice p7 t2.1.length c7, .int .i64 t2.2] 37)
            have R9 := Lib.hid (RowAt.new w7 #[.slice p7 t2.1.length c7, .int .i64 t2.2] 37)
            replace HU7 := Lib.hid (RN.below HU7.out hb (Nat.le_refl _))
            replace HL := Lib.hid (RP.below HL.out hb (Nat.le_refl _))
            replace RT := Lib.hid (RT.out.belowS hb)
            replace HU := Lib.hid (RN.below HU.out hb (Nat.le_refl _))
            replace R0 := Lib.hid (R0.out.belowS hb)
            replace HB := Lib.hid (HB.out.trans (hb.mono HB.out.size))
            clear hb
            generalize w7.alloc (.cells #[.slice p7 t2.1.length c7, .int .i64 t2.2] 37) = w9 at *
            generalize w7.heap.size = k9 at *
            go_upto_region 14 with (fail)
            obtain ⟨x0, x1⟩ := R9.out.drew.ic2
            have HLD := Lib.hid (RP.below HL.out (Below.refl w9.heap.size w9).drew (Nat.le_refl _))
            (refine region_order [0, 1, 2] [3] 4 (LaterC w9.drew) mix ?hB ?hC ?_; case hB => kernel_rfl); (case hC => (exact Below.refl _ _)); (iterate 3 ((with_reducible refine xr_step ?_); (refine ⟨_, rfl, ?_⟩); intro K hK; go_simp; (with_reducible refine hK _ ?_); clear hK K)); (with_reducible refine xr_nil ?_); ((with_reducible refine xe_step ?_); (refine ⟨_, rfl, ?_⟩); intro K hK; unfold EX; go_simp; (go_at_call 35; (with_reducible refine (KRD.out _ _ HLD.out).mono ?_); rintro e w10 ⟨v10, rfl, hr10, hb10⟩; refine ⟨_, rfl, hb10, hK _ _ ?_⟩; clear hK K)); (with_reducible refine xe_nil ?_); (simp only [List.drop_succ_cons, List.drop_zero])
            clear x0 x1 R9
            have hb := (Below.refl w9.heap.size w9).drew.trans (hb10.mono (Below.refl w9.heap.size w9).drew.size)
            have HL2 := Lib.hid hr10
            replace HU7 := Lib.hid (RN.below HU7.out hb (Nat.le_refl _))
            replace HL := Lib.hid (RP.below HL.out hb (Nat.le_refl _))
            replace RT := Lib.hid (RT.out.belowS hb)
            replace HU := Lib.hid (RN.below HU.out hb (Nat.le_refl _))
            replace R0 := Lib.hid (R0.out.belowS hb)
            replace HB := Lib.hid (HB.out.trans (hb.mono HB.out.size))
            clear hb hb10 hr10 HLD HL HU
            obtain ⟨pL, cL, rfl, zL1, zL2⟩ := RowE.shape encP HL2.out
            have RT2 := Lib.hid ((RT.out.set 0 (.slice p7 t2.1.length c7) (cs' := #[.slice p7 t2.1.length c7, .int .i64 t.2]) rfl).set 1 (.int .i64 t2.2) (cs' := #[.slice p7 t2.1.length c7, .int .i64 t2.2]) rfl)
            have HA1 := RN.apart_small HU7.out RT.out (by simp)
            have HA2 := RP.apart_trie HL2.out RT.out
            have HU8 := Lib.hid ((HU7.out.set HA1 0 (.slice p7 t2.1.length c7)).set HA1 1 (.int .i64 t2.2))
            have HL8 := Lib.hid ((HL2.out.set HA2 0 (.slice p7 t2.1.length c7)).set HA2 1 (.int .i64 t2.2))
            have R08 := Lib.hid ((R0.out.other ⟨kt, 0, none⟩ (.slice p7 t2.1.length c7) (Nat.ne_of_lt HKT.out)).other ⟨kt, 1, none⟩ (.int .i64 t2.2) (Nat.ne_of_lt HKT.out))
            have HB8 := Lib.hid ((HB.out.setCell (p := ⟨kt, 0, none⟩) (Nat.le_of_lt HKT.out) (.slice p7 t2.1.length c7)).setCell (p := ⟨kt, 1, none⟩) (Nat.le_of_lt HKT.out) (.int .i64 t2.2))
            obtain ⟨y0, y1, yf0, yf1⟩ := RT.out.c2
            clear RT HA1 HA2 HU7 HL2 R0 HB
            go_wp2
            exact ⟨⟨i + 1, l2, t2, .slice p7 t2.1.length c7, by omega, by omega, by simp, HLI2, HT2, HP2, HL8, RT2, HU8, R08, HB8⟩, by simp [intOf]; omega⟩
        · rw [if_neg hv] at HS2
          have hve : (mkS val).toList.isEmpty = false := by rw [mkS_toList]; exact List.isEmpty_eq_false_iff.2 hv
          clear KD KRD HPD hv
          cases hm : mayP (key, val) with
          | false =>
            rw [hm] at KM KP
            have HLI2 := Lib.hid (show l = (acts.take (i + 1)).foldl actF [] from by rw [HS2.out, hm]; rfl)
            simp only [Bool.false_eq_true, if_false] at KP
            clear HS2 hm KRP
            generalize (getL key l).isSome = has at *
            obtain ⟨t0, t1, -, -⟩ := RT.out.c2
            go_upto_region 21 with (first | (go_at_call 34; (with_reducible refine (KG.out _ _ HL.out).mono ?_); rintro e w6 ⟨rfl, hb⟩; replace HL := Lib.hid (RP.below HL.out hb (Nat.le_refl _)); replace RT := Lib.hid (RT.out.belowS hb); replace HU := Lib.hid (RN.below HU.out hb (Nat.le_refl _)); replace R0 := Lib.hid (R0.out.belowS hb); replace HB := Lib.hid (HB.out.trans (hb.mono HB.out.size)); clear hb KG t0 t1; obtain ⟨t0, t1, -, -⟩ := RT.out.c2) | (go_at_call 15; (with_reducible refine (KM.out _).mono ?_); rintro e w9 ⟨rfl, rfl⟩) | (go_at_call 14; (with_reducible refine (KP.out (.agg #[.slice pU t.1.length cU, .int .i64 t.2]) _ (TrA.of HU.out)).mono ?_); rintro e w7 ⟨v7, rfl, ⟨u7, rfl, hu7⟩, hb⟩; have HU7 := Lib.hid hu7; clear hu7; replace HL := Lib.hid (RP.below HL.out hb (Nat.le_refl _)); replace RT := Lib.hid (RT.out.belowS hb); replace HU := Lib.hid (RN.below HU.out hb (Nat.le_refl _)); replace R0 := Lib.hid (R0.out.belowS hb); replace HB := Lib.hid (HB.out.trans (hb.mono HB.out.size)); clear hb; obtain ⟨p7, c7, rfl, -, -⟩ := RowE.shape encN HU7.out))
            clear t0 t1
            have hb := (Below.refl w7.heap.size w7).alloc (Nat.le_refl _) (.cells #[.slice p7 zT.1.length c7, .int .i64 zT.2] 37)
            have R9 := Lib.hid (RowAt.new w7 #[.slice p7 zT.1.length c7, .int .i64 zT.2] 37)
            replace HU7 := Lib.hid (RN.below HU7.out hb (Nat.le_refl _))
            replace HL := Lib.hid (RP.below HL.out hb (Nat.le_refl _))
            replace RT := Lib.hid (RT.out.belowS hb)
            replace HU := Lib.hid (RN.below HU.out hb (Nat.le_refl _))
            replace R0 := Lib.hid (R0.out.belowS hb)
            replace HB := Lib.hid (HB.out.trans (hb.mono HB.out.size))
            clear hb
            generalize w7.alloc (.cells #[.slice p7 zT.1.length c7, .int .i64 zT.2] 37) = w9 at *
            generalize w7.heap.size = k9 at *
            obtain ⟨x0, x1, -, -⟩ := R9.out.c2
            go_wp2_with (go_at_call 17; (with_reducible refine (KLK.out _ w9 HU7.out).mono ?_); rintro e w10 ⟨rfl, hb⟩; replace HL := Lib.hid (RP.below HL.out hb (Nat.le_refl _)); replace RT := Lib.hid (RT.out.belowS hb); replace HU := Lib.hid (RN.below HU.out hb (Nat.le_refl _)); replace R0 := Lib.hid (R0.out.belowS hb); replace HB := Lib.hid (HB.out.trans (hb.mono HB.out.size)); clear hb)
            exact ⟨⟨i + 1, l, t, .slice pU t.1.length cU, by omega, by omega, by simp, HLI2, HT, HP, HL, RT, HU, R0, HB⟩, by simp [intOf]; omega⟩
          | true =>
            rw [hm] at KM KP
            have HPP := Lib.hid (fun h => HP.out.put hm h)
            rw [hm] at HS2
            simp only [Bool.true_and, if_true] at KP HS2
            clear hm
            cases hg : getL key l with
            | none =>
              rw [hg] at KG KP
              by_cases hf : l.length < 64
              · have HP2 := Lib.hid (HPP.out (.inr hf))
                have hq : decide (64 ≤ l.length) = false := decide_eq_false (by omega)
                rw [hg] at HS2
                simp only [Option.isSome_none, Bool.false_or, hf, decide_true, if_true] at KG KP HS2
                generalize hl2 : putL key val l = l2 at *
                have HLI2 := Lib.hid HS2.out.symm
                generalize ht2 : ofT l2 = t2 at *
                have HT2 := Lib.hid ht2.symm
                clear HS2 hg hl2 ht2 HPP
                obtain ⟨t0, t1, -, -⟩ := RT.out.c2
                go_upto_region 21 with (first | (go_at_call 34; (with_reducible refine (KG.out _ _ HL.out).mono ?_); rintro e w6 ⟨rfl, hb⟩; replace HL := Lib.hid (RP.below HL.out hb (Nat.le_refl _)); replace RT := Lib.hid (RT.out.belowS hb); replace HU := Lib.hid (RN.below HU.out hb (Nat.le_refl _)); replace R0 := Lib.hid (R0.out.belowS hb); replace HB := Lib.hid (HB.out.trans (hb.mono HB.out.size)); clear hb KG t0 t1; obtain ⟨t0, t1, -, -⟩ := RT.out.c2) | (go_at_call 15; (with_reducible refine (KM.out _).mono ?_); rintro e w9 ⟨rfl, rfl⟩) | (go_at_call 14; (with_reducible refine (KP.out (.agg #[.slice pU t.1.length cU, .int .i64 t.2]) _ (TrA.of HU.out)).mono ?_); rintro e w7 ⟨v7, rfl, ⟨u7, rfl, hu7⟩, hb⟩; have HU7 := Lib.hid hu7; clear hu7; replace HL := Lib.hid (RP.below HL.out hb (Nat.le_refl _)); replace RT := Lib.hid (RT.out.belowS hb); replace HU := Lib.hid (RN.below HU.out hb (Nat.le_refl _)); replace R0 := Lib.hid (R0.out.belowS hb); replace HB := Lib.hid (HB.out.trans (hb.mono HB.out.size)); clear hb; obtain ⟨p7, c7, rfl, -, -⟩ := RowE.shape encN HU7.out))
                clear t0 t1
                have hb := (Below.refl w7.heap.size w7).alloc (Nat.le_refl _) (.cells #[.slice p7 t2.1.length c7, .int .i64 t2.2] 37)
                have R9 := Lib.hid (RowAt.new w7 #[.slice p7 t2.1.length c7, .int .i64 t2.2] 37)
                replace HU7 := Lib.hid (RN.below HU7.out hb (Nat.le_refl _))
                replace HL := Lib.hid (RP.below HL.out hb (Nat.le_refl _))
                replace RT := Lib.hid (RT.out.belowS hb)
                replace HU := Lib.hid (RN.below HU.out hb (Nat.le_refl _))
                replace R0 := Lib.hid (R0.out.belowS hb)
                replace HB := Lib.hid (HB.out.trans (hb.mono HB.out.size))
                clear hb
                generalize w7.alloc (.cells #[.slice p7 t2.1.length c7, .int .i64 t2.2] 37) = w9 at *
                generalize w7.heap.size = k9 at *
                go_upto_region 24 with (fail)
                obtain ⟨x0, x1⟩ := R9.out.drew.ic2
                have HLD := Lib.hid (RP.below HL.out (Below.refl w9.heap.size w9).drew (Nat.le_refl _))
                (refine region_order [0, 1, 2, 3] [4] 5 (LaterC w9.drew) mix ?hB ?hC ?_; case hB => kernel_rfl); (case hC => (exact Below.refl _ _)); (iterate 4 ((with_reducible refine xr_step ?_); (refine ⟨_, rfl, ?_⟩); intro K hK; go_simp; (with_reducible refine hK _ ?_); clear hK K)); (with_reducible refine xr_nil ?_); ((with_reducible refine xe_step ?_); (refine ⟨_, rfl, ?_⟩); intro K hK; unfold EX; go_simp; (go_at_call 36; (with_reducible refine (KRP.out _ _ HLD.out).mono ?_); rintro e w10 ⟨v10, rfl, hr10, hb10⟩; refine ⟨_, rfl, hb10, hK _ _ ?_⟩; clear hK K)); (with_reducible refine xe_nil ?_); (simp only [List.drop_succ_cons, List.drop_zero])
                clear x0 x1 R9
                have hb := (Below.refl w9.heap.size w9).drew.trans (hb10.mono (Below.refl w9.heap.size w9).drew.size)
                have HL2 := Lib.hid hr10
                replace HU7 := Lib.hid (RN.below HU7.out hb (Nat.le_refl _))
                replace HL := Lib.hid (RP.below HL.out hb (Nat.le_refl _))
                replace RT := Lib.hid (RT.out.belowS hb)
                replace HU := Lib.hid (RN.below HU.out hb (Nat.le_refl _))
                replace R0 := Lib.hid (R0.out.belowS hb)
                replace HB := Lib.hid (HB.out.trans (hb.mono HB.out.size))
                clear hb hb10 hr10 HLD HL HU
                obtain ⟨pL, cL, rfl, zL1, zL2⟩ := RowE.shape encP HL2.out
                have RT2 := Lib.hid ((RT.out.set 0 (.slice p7 t2.1.length c7) (cs' := #[.slice p7 t2.1.length c7, .int .i64 t.2]) rfl).set 1 (.int .i64 t2.2) (cs' := #[.slice p7 t2.1.length c7, .int .i64 t2.2]) rfl)
                have HA1 := RN.apart_small HU7.out RT.out (by simp)
                have HA2 := RP.apart_trie HL2.out RT.out
                have HU8 := Lib.hid ((HU7.out.set HA1 0 (.slice p7 t2.1.length c7)).set HA1 1 (.int .i64 t2.2))
                have HL8 := Lib.hid ((HL2.out.set HA2 0 (.slice p7 t2.1.length c7)).set HA2 1 (.int .i64 t2.2))
                have R08 := Lib.hid ((R0.out.other ⟨kt, 0, none⟩ (.slice p7 t2.1.length c7) (Nat.ne_of_lt HKT.out)).other ⟨kt, 1, none⟩ (.int .i64 t2.2) (Nat.ne_of_lt HKT.out))
                have HB8 := Lib.hid ((HB.out.setCell (p := ⟨kt, 0, none⟩) (Nat.le_of_lt HKT.out) (.slice p7 t2.1.length c7)).setCell (p := ⟨kt, 1, none⟩) (Nat.le_of_lt HKT.out) (.int .i64 t2.2))
                obtain ⟨y0, y1, yf0, yf1⟩ := RT.out.c2
                clear RT HA1 HA2 HU7 HL2 R0 HB
                go_wp2
                exact ⟨⟨i + 1, l2, t2, .slice p7 t2.1.length c7, by omega, by omega, by simp, HLI2, HT2, HP2, HL8, RT2, HU8, R08, HB8⟩, by simp [intOf]; omega⟩
              · have hq : decide (64 ≤ l.length) = true := decide_eq_true (by omega)
                rw [hg] at HS2
                simp only [Option.isSome_none, Bool.false_or, hf, decide_false, Bool.false_eq_true, if_false] at KG KP HS2
                have HLI2 := Lib.hid HS2.out.symm
                clear HS2 hg HPP KRP
                obtain ⟨t0, t1, -, -⟩ := RT.out.c2
                go_upto_region 21 with (first | (go_at_call 34; (with_reducible refine (KG.out _ _ HL.out).mono ?_); rintro e w6 ⟨rfl, hb⟩; replace HL := Lib.hid (RP.below HL.out hb (Nat.le_refl _)); replace RT := Lib.hid (RT.out.belowS hb); replace HU := Lib.hid (RN.below HU.out hb (Nat.le_refl _)); replace R0 := Lib.hid (R0.out.belowS hb); replace HB := Lib.hid (HB.out.trans (hb.mono HB.out.size)); clear hb KG t0 t1; obtain ⟨t0, t1, -, -⟩ := RT.out.c2) | (go_at_call 15; (with_reducible refine (KM.out _).mono ?_); rintro e w9 ⟨rfl, rfl⟩) | (go_at_call 14; (with_reducible refine (KP.out (.agg #[.slice pU t.1.length cU, .int .i64 t.2]) _ (TrA.of HU.out)).mono ?_); rintro e w7 ⟨v7, rfl, ⟨u7, rfl, hu7⟩, hb⟩; have HU7 := Lib.hid hu7; clear hu7; replace HL := Lib.hid (RP.below HL.out hb (Nat.le_refl _)); replace RT := Lib.hid (RT.out.belowS hb); replace HU := Lib.hid (RN.below HU.out hb (Nat.le_refl _)); replace R0 := Lib.hid (R0.out.belowS hb); replace HB := Lib.hid (HB.out.trans (hb.mono HB.out.size)); clear hb; obtain ⟨p7, c7, rfl, -, -⟩ := RowE.shape encN HU7.out))
                clear t0 t1
                have hb := (Below.refl w7.heap.size w7).alloc (Nat.le_refl _) (.cells #[.slice p7 zT.1.length c7, .int .i64 zT.2] 37)
                have R9 := Lib.hid (RowAt.new w7 #[.slice p7 zT.1.length c7, .int .i64 zT.2] 37)
                replace HU7 := Lib.hid (RN.below HU7.out hb (Nat.le_refl _))
                replace HL := Lib.hid (RP.below HL.out hb (Nat.le_refl _))
                replace RT := Lib.hid (RT.out.belowS hb)
                replace HU := Lib.hid (RN.below HU.out hb (Nat.le_refl _))
                replace R0 := Lib.hid (R0.out.belowS hb)
                replace HB := Lib.hid (HB.out.trans (hb.mono HB.out.size))
                clear hb
                generalize w7.alloc (.cells #[.slice p7 zT.1.length c7, .int .i64 zT.2] 37) = w9 at *
                generalize w7.heap.size = k9 at *
                obtain ⟨x0, x1, -, -⟩ := R9.out.c2
                go_wp2_with (go_at_call 17; (with_reducible refine (KLK.out _ w9 HU7.out).mono ?_); rintro e w10 ⟨rfl, hb⟩; replace HL := Lib.hid (RP.below HL.out hb (Nat.le_refl _)); replace RT := Lib.hid (RT.out.belowS hb); replace HU := Lib.hid (RN.below HU.out hb (Nat.le_refl _)); replace R0 := Lib.hid (R0.out.belowS hb); replace HB := Lib.hid (HB.out.trans (hb.mono HB.out.size)); clear hb)
                exact ⟨⟨i + 1, l, t, .slice pU t.1.length cU, by omega, by omega, by simp, HLI2, HT, HP, HL, RT, HU, R0, HB⟩, by simp [intOf]; omega⟩
            | some old =>
              rw [hg] at KG KP
              have HP2 := Lib.hid (HPP.out (.inl (by rw [hg]; rfl)))
              rw [hg] at HS2
              simp only [Option.isSome_some, Bool.true_or, if_true] at KG KP HS2
              generalize hl2 : putL key val l = l2 at *
              have HLI2 := Lib.hid HS2.out.symm
              generalize ht2 : ofT l2 = t2 at *
              have HT2 := Lib.hid ht2.symm
              clear HS2 hg hl2 ht2 HPP
              obtain ⟨t0, t1, -, -⟩ := RT.out.c2
              go_upto_region 21 with (first | (go_at_call 34; (with_reducible refine (KG.out _ _ HL.out).mono ?_); rintro e w6 ⟨rfl, hb⟩; replace HL := Lib.hid (RP.below HL.out hb (Nat.le_refl _)); replace RT := Lib.hid (RT.out.belowS hb); replace HU := Lib.hid (RN.below HU.out hb (Nat.le_refl _)); replace R0 := Lib.hid (R0.out.belowS hb); replace HB := Lib.hid (HB.out.trans (hb.mono HB.out.size)); clear hb KG t0 t1; obtain ⟨t0, t1, -, -⟩ := RT.out.c2) | (go_at_call 15; (with_reducible refine (KM.out _).mono ?_); rintro e w9 ⟨rfl, rfl⟩) | (go_at_call 14; (with_reducible refine (KP.out (.agg #[.slice pU t.1.length cU, .int .i64 t.2]) _ (TrA.of HU.out)).mono ?_); rintro e w7 ⟨v7, rfl, ⟨u7, rfl, hu7⟩, hb⟩; have HU7 := Lib.hid hu7; clear hu7; replace HL := Lib.hid (RP.below HL.out hb (Nat.le_refl _)); replace RT := Lib.hid (RT.out.belowS hb); replace HU := Lib.hid (RN.below HU.out hb (Nat.le_refl _)); replace R0 := Lib.hid (R0.out.belowS hb); replace HB := Lib.hid (HB.out.trans (hb.mono HB.out.size)); clear hb; obtain ⟨p7, c7, rfl, -, -⟩ := RowE.shape encN HU7.out))
              clear t0 t1
              have hb := (Below.refl w7.heap.size w7).alloc (Nat.le_refl _) (.cells #[.slice p7 t2.1.length c7, .int .i64 t2.2] 37)
              have R9 := Lib.hid (RowAt.new w7 #[.slice p7 t2.1.length c7, .int .i64 t2.2] 37)
              replace HU7 := Lib.hid (RN.below HU7.out hb (Nat.le_refl _))
              replace HL := Lib.hid (RP.below HL.out hb (Nat.le_refl _))
              replace RT := Lib.hid (RT.out.belowS hb)
              replace HU := Lib.hid (RN.below HU.out hb (Nat.le_refl _))
              replace R0 := Lib.hid (R0.out.belowS hb)
              replace HB := Lib.hid (HB.out.trans (hb.mono HB.out.size))
              clear hb
              generalize w7.alloc (.cells #[.slice p7 t2.1.length c7, .int .i64 t2.2] 37) = w9 at *
              generalize w7.heap.size = k9 at *
              go_upto_region 24 with (fail)
              obtain ⟨x0, x1⟩ := R9.out.drew.ic2
              have HLD := Lib.hid (RP.below HL.out (Below.refl w9.heap.size w9).drew (Nat.le_refl _))
              (refine region_order [0, 1, 2, 3] [4] 5 (LaterC w9.drew) mix ?hB ?hC ?_; case hB => kernel_rfl); (case hC => (exact Below.refl _ _)); (iterate 4 ((with_reducible refine xr_step ?_); (refine ⟨_, rfl, ?_⟩); intro K hK; go_simp; (with_reducible refine hK _ ?_); clear hK K)); (with_reducible refine xr_nil ?_); ((with_reducible refine xe_step ?_); (refine ⟨_, rfl, ?_⟩); intro K hK; unfold EX; go_simp; (go_at_call 36; (with_reducible refine (KRP.out _ _ HLD.out).mono ?_); rintro e w10 ⟨v10, rfl, hr10, hb10⟩; refine ⟨_, rfl, hb10, hK _ _ ?_⟩; clear hK K)); (with_reducible refine xe_nil ?_); (simp only [List.drop_succ_cons, List.drop_zero])
              clear x0 x1 R9
              have hb := (Below.refl w9.heap.size w9).drew.trans (hb10.mono (Below.refl w9.heap.size w9).drew.size)
              have HL2 := Lib.hid hr10
              replace HU7 := Lib.hid (RN.below HU7.out hb (Nat.le_refl _))
              replace HL := Lib.hid (RP.below HL.out hb (Nat.le_refl _))
              replace RT := Lib.hid (RT.out.belowS hb)
              replace HU := Lib.hid (RN.below HU.out hb (Nat.le_refl _))
              replace R0 := Lib.hid (R0.out.belowS hb)
              replace HB := Lib.hid (HB.out.trans (hb.mono HB.out.size))
              clear hb hb10 hr10 HLD HL HU
              obtain ⟨pL, cL, rfl, zL1, zL2⟩ := RowE.shape encP HL2.out
              have RT2 := Lib.hid ((RT.out.set 0 (.slice p7 t2.1.length c7) (cs' := #[.slice p7 t2.1.length c7, .int .i64 t.2]) rfl).set 1 (.int .i64 t2.2) (cs' := #[.slice p7 t2.1.length c7, .int .i64 t2.2]) rfl)
              have HA1 := RN.apart_small HU7.out RT.out (by simp)
              have HA2 := RP.apart_trie HL2.out RT.out
              have HU8 := Lib.hid ((HU7.out.set HA1 0 (.slice p7 t2.1.length c7)).set HA1 1 (.int .i64 t2.2))
              have HL8 := Lib.hid ((HL2.out.set HA2 0 (.slice p7 t2.1.length c7)).set HA2 1 (.int .i64 t2.2))
              have R08 := Lib.hid ((R0.out.other ⟨kt, 0, none⟩ (.slice p7 t2.1.length c7) (Nat.ne_of_lt HKT.out)).other ⟨kt, 1, none⟩ (.int .i64 t2.2) (Nat.ne_of_lt HKT.out))
              have HB8 := Lib.hid ((HB.out.setCell (p := ⟨kt, 0, none⟩) (Nat.le_of_lt HKT.out) (.slice p7 t2.1.length c7)).setCell (p := ⟨kt, 1, none⟩) (Nat.le_of_lt HKT.out) (.int .i64 t2.2))
              obtain ⟨y0, y1, yf0, yf1⟩ := RT.out.c2
              clear RT HA1 HA2 HU7 HL2 R0 HB
              go_wp2
              exact ⟨⟨i + 1, l2, t2, .slice p7 t2.1.length c7, by omega, by omega, by simp, HLI2, HT2, HP2, HL8, RT2, HU8, R08, HB8⟩, by simp [intOf]; omega⟩
      · have HLM := Lib.hid (show l = ML by rw [HLI.out]; exact HFS.out i (.inr (by omega)) hi90 (by omega))
        have HSTOP := h90
        go_upto_region 26 with (fail)
        clear c0 c1
        generalize wr.alloc (.cells #[.string (mkS ak), .string (mkS av)] 76) = w4 at *
        clear HSTOP
        obtain ⟨pL, cL, rfl, zL1, zL2⟩ := RowE.shape encP HL.out
        obtain ⟨pU, cU, rfl, zU1, zU2⟩ := RowE.shape encN HU.out
        obtain ⟨x0, x1⟩ := RT.out.drew.ic2
        (refine region_items [(false, 0), (false, 1), (false, 2)] 3 (LaterC w4.drew) mix ?hB ?hC ?_; case hB => kernel_rfl); (case hC => (exact Below.refl _ _)); ((with_reducible refine xi_read ?_); (refine ⟨_, rfl, ?_⟩); intro K hK; go_simp; (with_reducible refine hK _ ?_); clear hK K); ((with_reducible refine xi_read ?_); (refine ⟨_, rfl, ?_⟩); intro K hK; go_simp; (with_reducible refine hK _ ?_); clear hK K); ((with_reducible refine xi_read ?_); (refine ⟨_, rfl, ?_⟩); intro K hK; go_simp; (with_reducible refine hK _ ?_); clear hK K); (with_reducible refine xi_nil ?_); (simp only [List.drop_succ_cons, List.drop_zero])
        clear x0 x1
        obtain ⟨y0, y1, yf0, yf1⟩ := R0.out.c2
        have R1 := R0.out.set 0 (.slice pU t.1.length cU) (cs' := #[.slice pU t.1.length cU, .int .i64 0]) rfl
        obtain ⟨m0, m1, -, -⟩ := (R1.set 1 (.int .i64 t.2) (cs' := #[.slice pU t.1.length cU, .int .i64 t.2]) rfl).c2
        have HA1 := RN.apart_small HU.out R0.out (by simp)
        have HA2 := RP.apart_trie HL.out R0.out
        have HUF := Lib.hid (RN.below ((HU.out.set HA1 0 (.slice pU t.1.length cU)).set HA1 1 (.int .i64 t.2)) (Below.refl _ _).drew (Nat.le_refl _))
        have HLF := Lib.hid (RP.below ((HL.out.set HA2 0 (.slice pU t.1.length cU)).set HA2 1 (.int .i64 t.2)) (Below.refl _ _).drew (Nat.le_refl _))
        have HBF := Lib.hid ((HB.out.setCell (p := ⟨w.heap.size, 0, none⟩) (Nat.le_refl _) (.slice pU t.1.length cU)).setCell (p := ⟨w.heap.size, 1, none⟩) (Nat.le_refl _) (.int .i64 t.2)).drew
        clear R1 HA1 HA2
        go_wp2
        refine bodyPost_ret (v := .tuple #[.slice pL l.length cL, .agg #[.slice pU t.1.length cU, .int .i64 t.2], .bool true]) (by simp [results, Try.results11, go_sem, m0, m1]) rfl ?_
        unfold ModelAns
        rw [← HLM.out, ← HT.out]
        exact ⟨_, _, rfl, HLF.out, HUF.out, HBF.out⟩

    · have HLM := Lib.hid (show l = ML by rw [HLI.out]; exact HFS.out i (.inl (by omega)) hi90 (by omega))
      have HSTOP := hlt
      go_upto_region 26 with (fail)
      clear HSTOP
      obtain ⟨pL, cL, rfl, zL1, zL2⟩ := RowE.shape encP HL.out
      obtain ⟨pU, cU, rfl, zU1, zU2⟩ := RowE.shape encN HU.out
      obtain ⟨x0, x1⟩ := RT.out.drew.ic2
      (refine region_items [(false, 0), (false, 1), (false, 2)] 3 (LaterC wr.drew) mix ?hB ?hC ?_; case hB => kernel_rfl); (case hC => (exact Below.refl _ _)); ((with_reducible refine xi_read ?_); (refine ⟨_, rfl, ?_⟩); intro K hK; go_simp; (with_reducible refine hK _ ?_); clear hK K); ((with_reducible refine xi_read ?_); (refine ⟨_, rfl, ?_⟩); intro K hK; go_simp; (with_reducible refine hK _ ?_); clear hK K); ((with_reducible refine xi_read ?_); (refine ⟨_, rfl, ?_⟩); intro K hK; go_simp; (with_reducible refine hK _ ?_); clear hK K); (with_reducible refine xi_nil ?_); (simp only [List.drop_succ_cons, List.drop_zero])
      clear x0 x1
      obtain ⟨y0, y1, yf0, yf1⟩ := R0.out.c2
      have R1 := R0.out.set 0 (.slice pU t.1.length cU) (cs' := #[.slice pU t.1.length cU, .int .i64 0]) rfl
      obtain ⟨m0, m1, -, -⟩ := (R1.set 1 (.int .i64 t.2) (cs' := #[.slice pU t.1.length cU, .int .i64 t.2]) rfl).c2
      have HA1 := RN.apart_small HU.out R0.out (by simp)
      have HA2 := RP.apart_trie HL.out R0.out
      have HUF := Lib.hid (RN.below ((HU.out.set HA1 0 (.slice pU t.1.length cU)).set HA1 1 (.int .i64 t.2)) (Below.refl _ _).drew (Nat.le_refl _))
      have HLF := Lib.hid (RP.below ((HL.out.set HA2 0 (.slice pU t.1.length cU)).set HA2 1 (.int .i64 t.2)) (Below.refl _ _).drew (Nat.le_refl _))
      have HBF := Lib.hid ((HB.out.setCell (p := ⟨w.heap.size, 0, none⟩) (Nat.le_refl _) (.slice pU t.1.length cU)).setCell (p := ⟨w.heap.size, 1, none⟩) (Nat.le_refl _) (.int .i64 t.2)).drew
      clear R1 HA1 HA2
      go_wp2
      refine bodyPost_ret (v := .tuple #[.slice pL l.length cL, .agg #[.slice pU t.1.length cU, .int .i64 t.2], .bool true]) (by simp [results, Try.results11, go_sem, m0, m1]) rfl ?_
      unfold ModelAns
      rw [← HLM.out, ← HT.out]
      exact ⟨_, _, rfl, HLF.out, HUF.out, HBF.out⟩

end Go.Proofs.Ytefmlbckbhlgdaa

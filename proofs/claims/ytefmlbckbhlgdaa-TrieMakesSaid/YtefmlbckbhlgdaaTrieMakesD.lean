/- The law's model, walked. TrieMakes, walked. The trie's laws: acts, tries and strings that come in; no string is longer than what an address reaches. TrieMakes: for every input the law returns true, and each argument reads as it did. No condition. -/
import Derived.Deep.Slices
import Derived.Deep.Strs
import Derived.Lib.SmallJoins
import Derived.Test.YtefmlbckbhlgdaaTm0
import Derived.Test.YtefmlbckbhlgdaaTm20
namespace Go.Proofs.Ytefmlbckbhlgdaa
open Go.RowKit Go.Shelf
set_option maxRecDepth 100000
theorem TrA.of {w : World} {u : Value} {t : List Nd × Int} (h : RN w u t.1) : TrA w (.agg #[u, .int .i64 t.2]) t := ⟨u, rfl, h⟩
theorem extract_min (s : List UInt8) (m : Nat) (k : Nat) (h : k = min s.length m) : (mkS s).extract 0 k = mkS (s.take m) := by
  rw [mkS_take, h]
  congr 1
  rw [List.take_eq_take_iff]; omega
def ModelAns (L : List Pr) (w : World) (e : Ending) (w' : World) : Prop := ∃ lv u, e = .returned (.tuple #[lv, .agg #[u, .int .i64 (ofT L).2], .bool true]) ∧ RP w' lv L ∧ RN w' u (ofT L).1 ∧ Below w.heap.size w w'

set_option maxHeartbeats 16000000 in
theorem model_any (acts : List Pr) (v : Value) (w : World) (h : RP w v acts) (hz : ∀ a ∈ acts, a.1.length ≤ 140737488351232 ∧ a.2.length ≤ 140737488351232) :
    Calls Try.prog 11 #[v] w (ModelAns (modelL acts) w) := by
  have KN := Lib.hid trNew_any
  have HFT := Lib.hid (fun i x => @foldl_take acts i x)
  have HFS := Lib.hid (fun i => @foldl_stop acts i)
  have HZ := Lib.hid (fun (i : Nat) (x : Pr) (hx : acts[i]? = some x) => hz x (List.mem_of_getElem? hx))
  obtain ⟨pv, cv, rfl, z1, z2⟩ := RowE.shape encP h
  have HV := Lib.hid h
  generalize hML : modelL acts = ML at *
  replace hML := Lib.hid hML
  have HFZ : Hid ([] = (acts.take 0).foldl actF []) := Lib.hid rfl
  clear h hz
  generalize hn : acts.length = n at *
  replace hn := Lib.hid hn
  go_enter Try.func11, Try.ntmps11
  go_upto_region 3 with (go_at_call 33; (with_reducible refine (KN.out _).mono ?_); rintro e w2 ⟨rfl, hb⟩; have HB1 := Lib.hid (((Below.refl w.heap.size w).alloc (Nat.le_refl _) (.cells #[.slice none 0 0, .int .i64 0] 37)).trans (hb.mono (by simp))); have R0 := Lib.hid ((RowAt.new w #[.slice none 0 0, .int .i64 0] 37).belowS hb); clear hb)
  have RT := Lib.hid (RowAt.new w2 #[.slice none 0 0, .int .i64 (-1)] 37)
  have HKT := Lib.hid (show w.heap.size < w2.heap.size from R0.out.lt)
  replace R0 := Lib.hid (R0.out.alloc (.cells #[.slice none 0 0, .int .i64 (-1)] 37))
  have HB := Lib.hid (HB1.out.alloc HB1.out.size (.cells #[.slice none 0 0, .int .i64 (-1)] 37))
  clear HB1 KN
  go_upto_region 4 with (fail)
  generalize w2.alloc (.cells #[.slice none 0 0, .int .i64 (-1)] 37) = w3 at *
  generalize w2.heap.size = kt at *
  go_loopw [5, 21] (fun s5 s21 wr => ∃ (i : Nat) (l : List Pr) (t : List Nd × Int) (u : Value), i ≤ n ∧ i ≤ 90 ∧ s21 = .int .i64 i ∧ Hid (l = (acts.take i).foldl actF []) ∧ Hid (t = ofT l) ∧ Hid (Pairs l) ∧ Hid (RP wr s5 l) ∧ Hid (RowAt wr kt #[u, .int .i64 t.2] 37) ∧ Hid (RN wr u t.1) ∧ Hid (RowAt wr w.heap.size #[.slice none 0 0, .int .i64 0] 37) ∧ Hid (Below w.heap.size w wr)) (fun _ s _ => 90 - (intOf s).toNat)
  case atStart => exact ⟨0, [], ([], -1), .slice none 0 0, Nat.zero_le _, by omega, rfl, HFZ, Lib.hid rfl, Lib.hid Pairs.nil, Lib.hid (.inl ⟨rfl, rfl⟩), RT, Lib.hid (.inl ⟨rfl, rfl⟩), R0, HB⟩
  case round =>
    clear HFZ RT R0 HB
    obtain ⟨i, l, t, u, hin, hi90, rfl, hl1, ht1, hp1, hr1, hrt1, hu1, hr01, hb1⟩ := hrel
    have HLI := Lib.hid hl1.out
    have HT := Lib.hid ht1.out
    have HP := Lib.hid hp1.out
    have HL := Lib.hid hr1.out
    have RT := Lib.hid hrt1.out
    have HU := Lib.hid hu1.out
    have R0 := Lib.hid hr01.out
    have HB := Lib.hid hb1.out
    clear hl1 ht1 hp1 hr1 hrt1 hu1 hr01 hb1
    by_cases hlt : i < n
    · obtain ⟨x, hx⟩ : ∃ x, acts[i]? = some x := ⟨_, List.getElem?_eq_getElem (by rw [hn.out]; exact hlt)⟩
      have HS := Lib.hid (show actF l x = (acts.take (i + 1)).foldl actF [] by rw [HFT.out i x hx, ← HLI.out])
      obtain ⟨a, rfl, c0, c1⟩ := RP.at (RP.below HV.out HB.out (Nat.le_refl _)) hx
      obtain ⟨hz1, hz2⟩ := HZ.out i x hx
      obtain ⟨ak, av⟩ := x
      simp only at c0 c1 hz1 hz2
      have HA := Lib.hid ((Below.refl wr.heap.size wr).alloc (Nat.le_refl _) (.cells #[.string (mkS ak), .string (mkS av)] 76))
      have R8 := Lib.hid (RowAt.new wr #[.string (mkS ak), .string (mkS av)] 76)
      replace HL := Lib.hid (RP.below HL.out HA.out (Nat.le_refl _))
      replace RT := Lib.hid (RT.out.belowS HA.out)
      replace HU := Lib.hid (RN.below HU.out HA.out (Nat.le_refl _))
      replace R0 := Lib.hid (R0.out.belowS HA.out)
      replace HB := Lib.hid (HB.out.trans (HA.out.mono HB.out.size))
      clear hx HA
      by_cases h90 : i < 90
      · go_upto_region 7 with (fail)
        clear c0 c1
        generalize wr.alloc (.cells #[.string (mkS ak), .string (mkS av)] 76) = w4 at *
        generalize wr.heap.size = k8 at *
        obtain ⟨y0, y1, -, -⟩ := R8.out.c2
        obtain ⟨km, hkm⟩ : ∃ m, min ak.length 40 = m := ⟨_, rfl⟩
        obtain ⟨vm, hvm⟩ : ∃ m, min av.length 600 = m := ⟨_, rfl⟩
        have e1 := extract_min ak 40 km hkm.symm
        have e2 := extract_min av 600 vm hvm.symm
        have z3 := mk_size ak
        have z4 := mk_size av
        have q1 : min (ak.length : Int) 40 = km := by omega
        have q2 : min (av.length : Int) 600 = vm := by omega
        have b1 : (km : Int) ≤ ak.length := by omega
        have b2 : (vm : Int) ≤ av.length := by omega
        have b3 : km ≤ ak.length := by omega
        have b4 : vm ≤ av.length := by omega
        have hkl : (keyA (ak, av)).length ≤ 40 := by unfold keyA; rw [List.length_take]; omega
        have hvl : (valA (ak, av)).length ≤ 600 := by unfold valA; rw [List.length_take]; omega
        have HS2 := Lib.hid (show actF l (ak, av) = if valA (ak, av) = [] then delL (keyA (ak, av)) l else if mayP (keyA (ak, av), valA (ak, av)) && ((getL (keyA (ak, av)) l).isSome || decide (l.length < 64)) then putL (keyA (ak, av)) (valA (ak, av)) l else l from rfl)
        rw [HS.out] at HS2
        replace e1 : (mkS ak).extract 0 km = mkS (keyA (ak, av)) := e1
        replace e2 : (mkS av).extract 0 vm = mkS (valA (ak, av)) := e2
        generalize keyA (ak, av) = key at *
        generalize valA (ak, av) = val at *
        clear hkm hvm HS
        (refine region_tail 15 mix ?hB ?_; case hB => kernel_rfl); (simp only [List.take_succ_cons, List.take_zero, List.drop_succ_cons, List.drop_zero]; (iterate 15 (with_reducible refine wpStill_step ?_; intro K hK; go_simp; with_reducible refine hK _ ?_; clear hK K)); with_reducible refine wpStill_nil ?_)
        replace HL := Lib.hid (RP.below HL.out (Below.refl w4.heap.size w4).drew (Nat.le_refl _))
        replace RT := Lib.hid RT.out.drew
        replace HU := Lib.hid (RN.below HU.out (Below.refl w4.heap.size w4).drew (Nat.le_refl _))
        replace R0 := Lib.hid R0.out.drew
        replace HB := Lib.hid HB.out.drew
        clear R8 y0 y1 e1 e2 z3 z4 q1 q2 b1 b2 b3 b4
        obtain ⟨pU, cU, rfl, zU1, zU2⟩ := RowE.shape encN HU.out
        obtain ⟨p5, c5, rfl, -, -⟩ := RowE.shape encP HL.out
        have hpt : pairsT t = (l, true) := by rw [HT.out]; exact pairsT_of HP.out
        have htok : TOk t := by rw [HT.out]; exact ofT_ok HP.out
        have hl64 := HP.out.2.2
        have KG := Lib.hid (fun u W (h : RP W u l) => rget_any key u l W h)
        have KD := Lib.hid (fun v W (h : TrA W v t) => trDel_any t htok key v W h)
        have KP := Lib.hid (fun v W (h : TrA W v t) => trPut_any t htok key val v W h)
        have KM := Lib.hid (fun W => rmay_any key val W)
        have KRD := Lib.hid (fun u W (h : RP W u l) => rdel_any key u l W h (by omega))
        have KRP := Lib.hid (fun u W (h : RP W u l) => rput_any key val u l W h (by omega) HP.out.1)
        have KLK := Lib.hid (fun u W (h : RN W u zT.1) => rlike_any zT.1 [] zT.2 0 u (.slice none 0 0) W h (.inl ⟨rfl, rfl⟩))
        rw [show likeT zT.1 zT.2 [] 0 = true from rfl] at KLK
        have HPD := Lib.hid (HP.out.del (k := key))
        unfold delR at KD
        unfold putR at KP
        simp only [hpt, if_true, Bool.true_and] at KD KP
        clear hpt htok
        generalize w4.drew = w5 at *
        by_cases hv : val = []
        · rw [if_pos hv] at HS2
          have hve : (mkS val).toList.isEmpty = true := by rw [mkS_toList, hv]; rfl
          clear KM KP KRP hv
          cases hg : getL key l with
          | none =>
            rw [hg] at KG KD
            have HLI2 := Lib.hid (show l = (acts.take (i + 1)).foldl actF [] from by rw [HS2.out, delL_not hg])
            simp only [Option.isSome_none, Bool.false_eq_true, if_false] at KG KD
            clear HS2 hg KRD HPD
            obtain ⟨t0, t1, -, -⟩ := RT.out.c2
            go_upto_region 11 with (first | (go_at_call 34; (with_reducible refine (KG.out _ _ HL.out).mono ?_); rintro e w6 ⟨rfl, hb⟩; replace HL := Lib.hid (RP.below HL.out hb (Nat.le_refl _)); replace RT := Lib.hid (RT.out.belowS hb); replace HU := Lib.hid (RN.below HU.out hb (Nat.le_refl _)); replace R0 := Lib.hid (R0.out.belowS hb); replace HB := Lib.hid (HB.out.trans (hb.mono HB.out.size)); clear hb KG t0 t1; obtain ⟨t0, t1, -, -⟩ := RT.out.c2) | (go_at_call 15; (with_reducible refine (KM.out _).mono ?_); rintro e w9 ⟨rfl, rfl⟩) | (go_at_call 16; (with_reducible refine (KD.out (.agg #[.slice pU t.1.length cU, .int .i64 t.2]) _ (TrA.of HU.out)).mono ?_); rintro e w7 ⟨v7, rfl, ⟨u7, rfl, hu7⟩, hb⟩; have HU7 := Lib.hid hu7; clear hu7; replace HL := Lib.hid (RP.below HL.out hb (Nat.le_refl _)); replace RT := Lib.hid (RT.out.belowS hb); replace HU := Lib.hid (RN.below HU.out hb (Nat.le_refl _)); replace R0 := Lib.hid (R0.out.belowS hb); replace HB := Lib.hid (HB.out.trans (hb.mono HB.out.size)); clear hb; obtain ⟨p7, c7, rfl, -, -⟩ := RowE.shape encN HU7.out))
            clear t0 t1
            have hb := (Below.refl w7.heap.size w7).alloc (Nat.le_refl _) (.cells #[.slice p7 zT.1.length c7, .int .i64 zT.2] 37)
            have R9 := Lib.hid (RowAt.new w7 #[.slice p7 zT.1.length c7, .int .i64 zT.2] 37)
            replace HU7 := Lib.hid (RN.below HU7.out hb (Nat.le_refl _))
            replace HL := Lib.hid (RP.below HL.out hb (Nat.le_refl _))
            replace RT := Lib.hid (RT.out.belowS hb)
            replace HU := Lib.hid (RN.below HU.out hb (Nat.le_refl _))
            replace R0 := Lib.hid (R0.out.belowS hb)
            replace HB := Lib.hid (HB.out.trans (hb.mono HB.out.size))
            clear hb
            generalize w7.alloc (.cells #[.slice p7 zT.1.length c7, .int .i64 zT.2] 37) = w9 at *
            generalize w7.heap.size = k9 at *
            obtain ⟨x0, x1, -, -⟩ := R9.out.c2
            go_wp2_with (go_at_call 17; (with_reducible refine (KLK.out _ w9 HU7.out).mono ?_); rintro e w10 ⟨rfl, hb⟩; replace HL := Lib.hid (RP.below HL.out hb (Nat.le_refl _)); replace RT := Lib.hid (RT.out.belowS hb); replace HU := Lib.hid (RN.below HU.out hb (Nat.le_refl _)); replace R0 := Lib.hid (R0.out.belowS hb); replace HB := Lib.hid (HB.out.trans (hb.mono HB.out.size)); clear hb)
            exact ⟨⟨i + 1, l, t, .slice pU t.1.length cU, by omega, by omega, by simp, HLI2, HT, HP, HL, RT, HU, R0, HB⟩, by simp [intOf]; omega⟩
          | some old =>
            rw [hg] at KG KD
            simp only [Option.isSome_some, if_true] at KG KD
            have HT2 : Hid (ofT (delL key l) = ofT (delL key l)) := Lib.hid rfl
            generalize hl2 : delL key l = l2 at *
            have HLI2 := Lib.hid HS2.out.symm
            have HP2 := HPD
            generalize ht2 : ofT l2 = t2 at *
            replace HT2 := Lib.hid ht2.symm
            clear HS2 hg hl2 ht2 HPD
            obtain ⟨t0, t1, -, -⟩ := RT.out.c2
            go_upto_region 11 with (first | (go_at_call 34; (with_reducible refine (KG.out _ _ HL.out).mono ?_); rintro e w6 ⟨rfl, hb⟩; replace HL := Lib.hid (RP.below HL.out hb (Nat.le_refl _)); replace RT := Lib.hid (RT.out.belowS hb); replace HU := Lib.hid (RN.below HU.out hb (Nat.le_refl _)); replace R0 := Lib.hid (R0.out.belowS hb); replace HB := Lib.hid (HB.out.trans (hb.mono HB.out.size)); clear hb KG t0 t1; obtain ⟨t0, t1, -, -⟩ := RT.out.c2) | (go_at_call 15; (with_reducible refine (KM.out _).mono ?_); rintro e w9 ⟨rfl, rfl⟩) | (go_at_call 16; (with_reducible refine (KD.out (.agg #[.slice pU t.1.length cU, .int .i64 t.2]) _ (TrA.of HU.out)).mono ?_); rintro e w7 ⟨v7, rfl, ⟨u7, rfl, hu7⟩, hb⟩; have HU7 := Lib.hid hu7; clear hu7; replace HL := Lib.hid (RP.below HL.out hb (Nat.le_refl _)); replace RT := Lib.hid (RT.out.belowS hb); replace HU := Lib.hid (RN.below HU.out hb (Nat.le_refl _)); replace R0 := Lib.hid (R0.out.belowS hb); replace HB := Lib.hid (HB.out.trans (hb.mono HB.out.size)); clear hb; obtain ⟨p7, c7, rfl, -, -⟩ := RowE.shape encN HU7.out))
            clear t0 t1
            have hb := (Below.refl w7.heap.size w7).alloc (Nat.le_refl _) (.cells #[.slice p7 t2.1.length c7, .int .i64 t2.2] 37)
            have R9 := Lib.hid (RowAt.new w7 #[.slice p7 t2.1.length c7, .int .i64 t2.2] 37)
            replace HU7 := Lib.hid (RN.below HU7.out hb (Nat.le_refl _))
            replace HL := Lib.hid (RP.below HL.out hb (Nat.le_refl _))
            replace RT := Lib.hid (RT.out.belowS hb)
            replace HU := Lib.hid (RN.below HU.out hb (Nat.le_refl _))
            replace R0 := Lib.hid (R0.out.belowS hb)
            replace HB := Lib.hid (HB.out.trans (hb.mono HB.out.size))
            clear hb
            generalize w7.alloc (.cells #[.slice p7 t2.1.length c7, .int .i64 t2.2] 37) = w9 at *
            generalize w7.heap.size = k9 at *
            go_upto_region 14 with (fail)
            obtain ⟨x0, x1⟩ := R9.out.drew.ic2
            have HLD := Lib.hid (RP.below HL.out (Below.refl w9.heap.size w9).drew (Nat.le_refl _))
            (refine region_order [0, 1, 2] [3] 4 (LaterC w9.drew) mix ?hB ?hC ?_; case hB => kernel_rfl); (case hC => (exact Below.refl _ _)); (iterate 3 ((with_reducible refine xr_step ?_); (refine ⟨_, rfl, ?_⟩); intro K hK; go_simp; (with_reducible refine hK _ ?_); clear hK K)); (with_reducible refine xr_nil ?_); ((with_reducible refine xe_step ?_); (refine ⟨_, rfl, ?_⟩); intro K hK; unfold EX; go_simp; (go_at_call 35; (with_reducible refine (KRD.out _ _ HLD.out).mono ?_); rintro e w10 ⟨v10, rfl, hr10, hb10⟩; refine ⟨_, rfl, hb10, hK _ _ ?_⟩; clear hK K)); (with_reducible refine xe_nil ?_); (simp only [List.drop_succ_cons, List.drop_zero])
            clear x0 x1 R9
            have hb := (Below.refl w9.heap.size w9).drew.trans (hb10.mono (Below.refl w9.heap.size w9).drew.size)
            have HL2 := Lib.hid hr10
            replace HU7 := Lib.hid (RN.below HU7.out hb (Nat.le_refl _))
            replace HL := Lib.hid (RP.below HL.out hb (Nat.le_refl _))
            replace RT := Lib.hid (RT.out.belowS hb)
            replace HU := Lib.hid (RN.below HU.out hb (Nat.le_refl _))
            replace R0 := Lib.hid (R0.out.belowS hb)
            replace HB := Lib.hid (HB.out.trans (hb.mono HB.out.size))
            clear hb hb10 hr10 HLD HL HU
            obtain ⟨pL, cL, rfl, zL1, zL2⟩ := RowE.shape encP HL2.out
            have RT2 := Lib.hid ((RT.out.set 0 (.slice p7 t2.1.length c7) (cs' := #[.slice p7 t2.1.length c7, .int .i64 t.2]) rfl).set 1 (.int .i64 t2.2) (cs' := #[.slice p7 t2.1.length c7, .int .i64 t2.2]) rfl)
            have HA1 := RN.apart_small HU7.out RT.out (by simp)
            have HA2 := RP.apart_trie HL2.out RT.out
            have HU8 := Lib.hid ((HU7.out.set HA1 0 (.slice p7 t2.1.length c7)).set HA1 1 (.int .i64 t2.2))
            have HL8 := Lib.hid ((HL2.out.set HA2 0 (.slice p7 t2.1.length c7)).set HA2 1 (.int .i64 t2.2))
            have R08 := Lib.hid ((R0.out.other ⟨kt, 0, none⟩ (.slice p7 t2.1.length c7) (Nat.ne_of_lt HKT.out)).other ⟨kt, 1, none⟩ (.int .i64 t2.2) (Nat.ne_of_lt HKT.out))
            have HB8 := Lib.hid ((HB.out.setCell (p := ⟨kt, 0, none⟩) (Nat.le_of_lt HKT.out) (.slice p7 t2.1.length c7)).setCell (p := ⟨kt, 1, none⟩) (Nat.le_of_lt HKT.out) (.int .i64 t2.2))
            obtain ⟨y0, y1, yf0, yf1⟩ := RT.out.c2
            clear RT HA1 HA2 HU7 HL2 R0 HB
            go_wp2
            exact ⟨⟨i + 1, l2, t2, .slice p7 t2.1.length c7, by omega, by omega, by simp, HLI2, HT2, HP2, HL8, RT2, HU8, R08, HB8⟩, by simp [intOf]; omega⟩
        · rw [if_neg hv] at HS2
          have hve : (mkS val).toList.isEmpty = false := by rw [mkS_toList]; exact List.isEmpty_eq_false_iff.2 hv
          clear KD KRD HPD hv
          cases hm : mayP (key, val) with
          | false =>
            rw [hm] at KM KP
            have HLI2 := Lib.hid (show l = (acts.take (i + 1)).foldl actF [] from by rw [HS2.out, hm]; rfl)
            simp only [Bool.false_eq_true, if_false] at KP
            clear HS2 hm KRP
            generalize (getL key l).isSome = has at *
            obtain ⟨t0, t1, -, -⟩ := RT.out.c2
            go_upto_region 21 with (first | (go_at_call 34; (with_reducible refine (KG.out _ _ HL.out).mono ?_); rintro e w6 ⟨rfl, hb⟩; replace HL := Lib.hid (RP.below HL.out hb (Nat.le_refl _)); replace RT := Lib.hid (RT.out.belowS hb); replace HU := Lib.hid (RN.below HU.out hb (Nat.le_refl _)); replace R0 := Lib.hid (R0.out.belowS hb); replace HB := Lib.hid (HB.out.trans (hb.mono HB.out.size)); clear hb KG t0 t1; obtain ⟨t0, t1, -, -⟩ := RT.out.c2) | (go_at_call 15; (with_reducible refine (KM.out _).mono ?_); rintro e w9 ⟨rfl, rfl⟩) | (go_at_call 14; (with_reducible refine (KP.out (.agg #[.slice pU t.1.length cU, .int .i64 t.2]) _ (TrA.of HU.out)).mono ?_); rintro e w7 ⟨v7, rfl, ⟨u7, rfl, hu7⟩, hb⟩; have HU7 := Lib.hid hu7; clear hu7; replace HL := Lib.hid (RP.below HL.out hb (Nat.le_refl _)); replace RT := Lib.hid (RT.out.belowS hb); replace HU := Lib.hid (RN.below HU.out hb (Nat.le_refl _)); replace R0 := Lib.hid (R0.out.belowS hb); replace HB := Lib.hid (HB.out.trans (hb.mono HB.out.size)); clear hb; obtain ⟨p7, c7, rfl, -, -⟩ := RowE.shape encN HU7.out))
            clear t0 t1
            have hb := (Below.refl w7.heap.size w7).alloc (Nat.le_refl _) (.cells #[.slice p7 zT.1.length c7, .int .i64 zT.2] 37)
            have R9 := Lib.hid (RowAt.new w7 #[.slice p7 zT.1.length c7, .int .i64 zT.2] 37)
            replace HU7 := Lib.hid (RN.below HU7.out hb (Nat.le_refl _))
            replace HL := Lib.hid (RP.below HL.out hb (Nat.le_refl _))
            replace RT := Lib.hid (RT.out.belowS hb)
            replace HU := Lib.hid (RN.below HU.out hb (Nat.le_refl _))
            replace R0 := Lib.hid (R0.out.belowS hb)
            replace HB := Lib.hid (HB.out.trans (hb.mono HB.out.size))
            clear hb
            generalize w7.alloc (.cells #[.slice p7 zT.1.length c7, .int .i64 zT.2] 37) = w9 at *
            generalize w7.heap.size = k9 at *
            obtain ⟨x0, x1, -, -⟩ := R9.out.c2
            go_wp2_with (go_at_call 17; (with_reducible refine (KLK.out _ w9 HU7.out).mono ?_); rintro e w10 ⟨rfl, hb⟩; replace HL := Lib.hid (RP.below HL.out hb (Nat.le_refl _)); replace RT := Lib.hid (RT.out.belowS hb); replace HU := Lib.hid (RN.below HU.out hb (Nat.le_refl _)); replace R0 := Lib.hid (R0.out.belowS hb); replace HB := Lib.hid (HB.out.trans (hb.mono HB.out.size)); clear hb)
            exact ⟨⟨i + 1, l, t, .slice pU t.1.length cU, by omega, by omega, by simp, HLI2, HT, HP, HL, RT, HU, R0, HB⟩, by simp [intOf]; omega⟩
          | true =>
            rw [hm] at KM KP
            have HPP := Lib.hid (fun h => HP.out.put hm h)
            rw [hm] at HS2
            simp only [Bool.true_and, if_true] at KP HS2
            clear hm
            cases hg : getL key l with
            | none =>
              rw [hg] at KG KP
              by_cases hf : l.length < 64
              · have HP2 := Lib.hid (HPP.out (.inr hf))
                have hq : decide (64 ≤ l.length) = false := decide_eq_false (by omega)
                rw [hg] at HS2
                simp only [Option.isSome_none, Bool.false_or, hf, decide_true, if_true] at KG KP HS2
                generalize hl2 : putL key val l = l2 at *
                have HLI2 := Lib.hid HS2.out.symm
                generalize ht2 : ofT l2 = t2 at *
                have HT2 := Lib.hid ht2.symm
                clear HS2 hg hl2 ht2 HPP
                obtain ⟨t0, t1, -, -⟩ := RT.out.c2
                go_upto_region 21 with (first | (go_at_call 34; (with_reducible refine (KG.out _ _ HL.out).mono ?_); rintro e w6 ⟨rfl, hb⟩; replace HL := Lib.hid (RP.below HL.out hb (Nat.le_refl _)); replace RT := Lib.hid (RT.out.belowS hb); replace HU := Lib.hid (RN.below HU.out hb (Nat.le_refl _)); replace R0 := Lib.hid (R0.out.belowS hb); replace HB := Lib.hid (HB.out.trans (hb.mono HB.out.size)); clear hb KG t0 t1; obtain ⟨t0, t1, -, -⟩ := RT.out.c2) | (go_at_call 15; (with_reducible refine (KM.out _).mono ?_); rintro e w9 ⟨rfl, rfl⟩) | (go_at_call 14; (with_reducible refine (KP.out (.agg #[.slice pU t.1.length cU, .int .i64 t.2]) _ (TrA.of HU.out)).mono ?_); rintro e w7 ⟨v7, rfl, ⟨u7, rfl, hu7⟩, hb⟩; have HU7 := Lib.hid hu7; clear hu7; replace HL := Lib.hid (RP.below HL.out hb (Nat.le_refl _)); replace RT := Lib.hid (RT.out.belowS hb); replace HU := Lib.hid (RN.below HU.out hb (Nat.le_refl _)); replace R0 := Lib.hid (R0.out.belowS hb); replace HB := Lib.hid (HB.out.trans (hb.mono HB.out.size)); clear hb; obtain ⟨p7, c7, rfl, -, -⟩ := RowE.shape encN HU7.out))
                clear t0 t1
                have hb := (Below.refl w7.heap.size w7).alloc (Nat.le_refl _) (.cells #[.slice p7 t2.1.length c7, .int .i64 t2.2] 37)
                have R9 := Lib.hid (RowAt.new w7 #[.slice p7 t2.1.length c7, .int .i64 t2.2] 37)
                replace HU7 := Lib.hid (RN.below HU7.out hb (Nat.le_refl _))
                replace HL := Lib.hid (RP.below HL.out hb (Nat.le_refl _))
                replace RT := Lib.hid (RT.out.belowS hb)
                replace HU := Lib.hid (RN.below HU.out hb (Nat.le_refl _))
                replace R0 := Lib.hid (R0.out.belowS hb)
                replace HB := Lib.hid (HB.out.trans (hb.mono HB.out.size))
                clear hb
                generalize w7.alloc (.cells #[.slice p7 t2.1.length c7, .int .i64 t2.2] 37) = w9 at *
                generalize w7.heap.size = k9 at *
                go_upto_region 24 with (fail)
                obtain ⟨x0, x1⟩ := R9.out.drew.ic2
                have HLD := Lib.hid (RP.below HL.out (Below.refl w9.heap.size w9).drew (Nat.le_refl _))
                (refine region_order [0, 1, 2, 3] [4] 5 (LaterC w9.drew) mix ?hB ?hC ?_; case hB => kernel_rfl); (case hC => (exact Below.refl _ _)); (iterate 4 ((with_reducible refine xr_step ?_); (refine ⟨_, rfl, ?_⟩); intro K hK; go_simp; (with_reducible refine hK _ ?_); clear hK K)); (with_reducible refine xr_nil ?_); ((with_reducible refine xe_step ?_); (refine ⟨_, rfl, ?_⟩); intro K hK; unfold EX; go_simp; (go_at_call 36; (with_reducible refine (KRP.out _ _ HLD.out).mono ?_); rintro e w10 ⟨v10, rfl, hr10, hb10⟩; refine ⟨_, rfl, hb10, hK _ _ ?_⟩; clear hK K)); (with_reducible refine xe_nil ?_); (simp only [List.drop_succ_cons, List.drop_zero])
                clear x0 x1 R9
                have hb := (Below.refl w9.heap.size w9).drew.trans (hb10.mono (Below.refl w9.heap.size w9).drew.size)
                have HL2 := Lib.hid hr10
                replace HU7 := Lib.hid (RN.below HU7.out hb (Nat.le_refl _))
                replace HL := Lib.hid (RP.below HL.out hb (Nat.le_refl _))
                replace RT := Lib.hid (RT.out.belowS hb)
                replace HU := Lib.hid (RN.below HU.out hb (Nat.le_refl _))
                replace R0 := Lib.hid (R0.out.belowS hb)
                replace HB := Lib.hid (HB.out.trans (hb.mono HB.out.size))
                clear hb hb10 hr10 HLD HL HU
                obtain ⟨pL, cL, rfl, zL1, zL2⟩ := RowE.shape encP HL2.out
                have RT2 := Lib.hid ((RT.out.set 0 (.slice p7 t2.1.length c7) (cs' := #[.slice p7 t2.1.length c7, .int .i64 t.2]) rfl).set 1 (.int .i64 t2.2) (cs' := #[.slice p7 t2.1.length c7, .int .i64 t2.2]) rfl)
                have HA1 := RN.apart_small HU7.out RT.out (by simp)
                have HA2 := RP.apart_trie HL2.out RT.out
                have HU8 := Lib.hid ((HU7.out.set HA1 0 (.slice p7 t2.1.length c7)).set HA1 1 (.int .i64 t2.2))
                have HL8 := Lib.hid ((HL2.out.set HA2 0 (.slice p7 t2.1.length c7)).set HA2 1 (.int .i64 t2.2))
                have R08 := Lib.hid ((R0.out.other ⟨kt, 0, none⟩ (.slice p7 t2.1.length c7) (Nat.ne_of_lt HKT.out)).other ⟨kt, 1, none⟩ (.int .i64 t2.2) (Nat.ne_of_lt HKT.out))
                have HB8 := Lib.hid ((HB.out.setCell (p := ⟨kt, 0, none⟩) (Nat.le_of_lt HKT.out) (.slice p7 t2.1.length c7)).setCell (p := ⟨kt, 1, none⟩) (Nat.le_of_lt HKT.out) (.int .i64 t2.2))
                obtain ⟨y0, y1, yf0, yf1⟩ := RT.out.c2
                clear RT HA1 HA2 HU7 HL2 R0 HB
                go_wp2
                exact ⟨⟨i + 1, l2, t2, .slice p7 t2.1.length c7, by omega, by omega, by simp, HLI2, HT2, HP2, HL8, RT2, HU8, R08, HB8⟩, by simp [intOf]; omega⟩
              · have hq : decide (64 ≤ l.length) = true := decide_eq_true (by omega)
                rw [hg] at HS2
                simp only [Option.isSome_none, Bool.false_or, hf, decide_false, Bool.false_eq_true, if_false] at KG KP HS2
                have HLI2 := Lib.hid HS2.out.symm
                clear HS2 hg HPP KRP
                obtain ⟨t0, t1, -, -⟩ := RT.out.c2
                go_upto_region 21 with (first | (go_at_call 34; (with_reducible refine (KG.out _ _ HL.out).mono ?_); rintro e w6 ⟨rfl, hb⟩; replace HL := Lib.hid (RP.below HL.out hb (Nat.le_refl _)); replace RT := Lib.hid (RT.out.belowS hb); replace HU := Lib.hid (RN.below HU.out hb (Nat.le_refl _)); replace R0 := Lib.hid (R0.out.belowS hb); replace HB := Lib.hid (HB.out.trans (hb.mono HB.out.size)); clear hb KG t0 t1; obtain ⟨t0, t1, -, -⟩ := RT.out.c2) | (go_at_call 15; (with_reducible refine (KM.out _).mono ?_); rintro e w9 ⟨rfl, rfl⟩) | (go_at_call 14; (with_reducible refine (KP.out (.agg #[.slice pU t.1.length cU, .int .i64 t.2]) _ (TrA.of HU.out)).mono ?_); rintro e w7 ⟨v7, rfl, ⟨u7, rfl, hu7⟩, hb⟩; have HU7 := Lib.hid hu7; clear hu7; replace HL := Lib.hid (RP.below HL.out hb (Nat.le_refl _)); replace RT := Lib.hid (RT.out.belowS hb); replace HU := Lib.hid (RN.below HU.out hb (Nat.le_refl _)); replace R0 := Lib.hid (R0.out.belowS hb); replace HB := Lib.hid (HB.out.trans (hb.mono HB.out.size)); clear hb; obtain ⟨p7, c7, rfl, -, -⟩ := RowE.shape encN HU7.out))
                clear t0 t1
                have hb := (Below.refl w7.heap.size w7).alloc (Nat.le_refl _) (.cells #[.slice p7 zT.1.length c7, .int .i64 zT.2] 37)
                have R9 := Lib.hid (RowAt.new w7 #[.slice p7 zT.1.length c7, .int .i64 zT.2] 37)
                replace HU7 := Lib.hid (RN.below HU7.out hb (Nat.le_refl _))
                replace HL := Lib.hid (RP.below HL.out hb (Nat.le_refl _))
                replace RT := Lib.hid (RT.out.belowS hb)
                replace HU := Lib.hid (RN.below HU.out hb (Nat.le_refl _))
                replace R0 := Lib.hid (R0.out.belowS hb)
                replace HB := Lib.hid (HB.out.trans (hb.mono HB.out.size))
                clear hb
                generalize w7.alloc (.cells #[.slice p7 zT.1.length c7, .int .i64 zT.2] 37) = w9 at *
                generalize w7.heap.size = k9 at *
                obtain ⟨x0, x1, -, -⟩ := R9.out.c2
                go_wp2_with (go_at_call 17; (with_reducible refine (KLK.out _ w9 HU7.out).mono ?_); rintro e w10 ⟨rfl, hb⟩; replace HL := Lib.hid (RP.below HL.out hb (Nat.le_refl _)); replace RT := Lib.hid (RT.out.belowS hb); replace HU := Lib.hid (RN.below HU.out hb (Nat.le_refl _)); replace R0 := Lib.hid (R0.out.belowS hb); replace HB := Lib.hid (HB.out.trans (hb.mono HB.out.size)); clear hb)
                exact ⟨⟨i + 1, l, t, .slice pU t.1.length cU, by omega, by omega, by simp, HLI2, HT, HP, HL, RT, HU, R0, HB⟩, by simp [intOf]; omega⟩
            | some old =>
              rw [hg] at KG KP
              have HP2 := Lib.hid (HPP.out (.inl (by rw [hg]; rfl)))
              rw [hg] at HS2
              simp only [Option.isSome_some, Bool.true_or, if_true] at KG KP HS2
              generalize hl2 : putL key val l = l2 at *
              have HLI2 := Lib.hid HS2.out.symm
              generalize ht2 : ofT l2 = t2 at *
              have HT2 := Lib.hid ht2.symm
              clear HS2 hg hl2 ht2 HPP
              obtain ⟨t0, t1, -, -⟩ := RT.out.c2
              go_upto_region 21 with (first | (go_at_call 34; (with_reducible refine (KG.out _ _ HL.out).mono ?_); rintro e w6 ⟨rfl, hb⟩; replace HL := Lib.hid (RP.below HL.out hb (Nat.le_refl _)); replace RT := Lib.hid (RT.out.belowS hb); replace HU := Lib.hid (RN.below HU.out hb (Nat.le_refl _)); replace R0 := Lib.hid (R0.out.belowS hb); replace HB := Lib.hid (HB.out.trans (hb.mono HB.out.size)); clear hb KG t0 t1; obtain ⟨t0, t1, -, -⟩ := RT.out.c2) | (go_at_call 15; (with_reducible refine (KM.out _).mono ?_); rintro e w9 ⟨rfl, rfl⟩) | (go_at_call 14; (with_reducible refine (KP.out (.agg #[.slice pU t.1.length cU, .int .i64 t.2]) _ (TrA.of HU.out)).mono ?_); rintro e w7 ⟨v7, rfl, ⟨u7, rfl, hu7⟩, hb⟩; have HU7 := Lib.hid hu7; clear hu7; replace HL := Lib.hid (RP.below HL.out hb (Nat.le_refl _)); replace RT := Lib.hid (RT.out.belowS hb); replace HU := Lib.hid (RN.below HU.out hb (Nat.le_refl _)); replace R0 := Lib.hid (R0.out.belowS hb); replace HB := Lib.hid (HB.out.trans (hb.mono HB.out.size)); clear hb; obtain ⟨p7, c7, rfl, -, -⟩ := RowE.shape encN HU7.out))
              clear t0 t1
              have hb := (Below.refl w7.heap.size w7).alloc (Nat.le_refl _) (.cells #[.slice p7 t2.1.length c7, .int .i64 t2.2] 37)
              have R9 := Lib.hid (RowAt.new w7 #[.slice p7 t2.1.length c7, .int .i64 t2.2] 37)
              replace HU7 := Lib.hid (RN.below HU7.out hb (Nat.le_refl _))
              replace HL := Lib.hid (RP.below HL.out hb (Nat.le_refl _))
              replace RT := Lib.hid (RT.out.belowS hb)
              replace HU := Lib.hid (RN.below HU.out hb (Nat.le_refl _))
              replace R0 := Lib.hid (R0.out.belowS hb)
              replace HB := Lib.hid (HB.out.trans (hb.mono HB.out.size))
              clear hb
              generalize w7.alloc (.cells #[.slice p7 t2.1.length c7, .int .i64 t2.2] 37) = w9 at *
              generalize w7.heap.size = k9 at *
              go_upto_region 24 with (fail)
              obtain ⟨x0, x1⟩ := R9.out.drew.ic2
              have HLD := Lib.hid (RP.below HL.out (Below.refl w9.heap.size w9).drew (Nat.le_refl _))
              (refine region_order [0, 1, 2, 3] [4] 5 (LaterC w9.drew) mix ?hB ?hC ?_; case hB => kernel_rfl); (case hC => (exact Below.refl _ _)); (iterate 4 ((with_reducible refine xr_step ?_); (refine ⟨_, rfl, ?_⟩); intro K hK; go_simp; (with_reducible refine hK _ ?_); clear hK K)); (with_reducible refine xr_nil ?_); ((with_reducible refine xe_step ?_); (refine ⟨_, rfl, ?_⟩); intro K hK; unfold EX; go_simp; (go_at_call 36; (with_reducible refine (KRP.out _ _ HLD.out).mono ?_); rintro e w10 ⟨v10, rfl, hr10, hb10⟩; refine ⟨_, rfl, hb10, hK _ _ ?_⟩; clear hK K)); (with_reducible refine xe_nil ?_); (simp only [List.drop_succ_cons, List.drop_zero])
              clear x0 x1 R9
              have hb := (Below.refl w9.heap.size w9).drew.trans (hb10.mono (Below.refl w9.heap.size w9).drew.size)
              have HL2 := Lib.hid hr10
              replace HU7 := Lib.hid (RN.below HU7.out hb (Nat.le_refl _))
              replace HL := Lib.hid (RP.below HL.out hb (Nat.le_refl _))
              replace RT := Lib.hid (RT.out.belowS hb)
              replace HU := Lib.hid (RN.below HU.out hb (Nat.le_refl _))
              replace R0 := Lib.hid (R0.out.belowS hb)
              replace HB := Lib.hid (HB.out.trans (hb.mono HB.out.size))
              clear hb hb10 hr10 HLD HL HU
              obtain ⟨pL, cL, rfl, zL1, zL2⟩ := RowE.shape encP HL2.out
              have RT2 := Lib.hid ((RT.out.set 0 (.slice p7 t2.1.length c7) (cs' := #[.slice p7 t2.1.length c7, .int .i64 t.2]) rfl).set 1 (.int .i64 t2.2) (cs' := #[.slice p7 t2.1.length c7, .int .i64 t2.2]) rfl)
              have HA1 := RN.apart_small HU7.out RT.out (by simp)
              have HA2 := RP.apart_trie HL2.out RT.out
              have HU8 := Lib.hid ((HU7.out.set HA1 0 (.slice p7 t2.1.length c7)).set HA1 1 (.int .i64 t2.2))
              have HL8 := Lib.hid ((HL2.out.set HA2 0 (.slice p7 t2.1.length c7)).set HA2 1 (.int .i64 t2.2))
              have R08 := Lib.hid ((R0.out.other ⟨kt, 0, none⟩ (.slice p7 t2.1.length c7) (Nat.ne_of_lt HKT.out)).other ⟨kt, 1, none⟩ (.int .i64 t2.2) (Nat.ne_of_lt HKT.out))
              have HB8 := Lib.hid ((HB.out.setCell (p := ⟨kt, 0, none⟩) (Nat.le_of_lt HKT.out) (.slice p7 t2.1.length c7)).setCell (p := ⟨kt, 1, none⟩) (Nat.le_of_lt HKT.out) (.int .i64 t2.2))
              obtain ⟨y0, y1, yf0, yf1⟩ := RT.out.c2
              clear RT HA1 HA2 HU7 HL2 R0 HB
              go_wp2
              exact ⟨⟨i + 1, l2, t2, .slice p7 t2.1.length c7, by omega, by omega, by simp, HLI2, HT2, HP2, HL8, RT2, HU8, R08, HB8⟩, by simp [intOf]; omega⟩
      · have HLM := Lib.hid (show l = ML by rw [HLI.out]; exact HFS.out i (.inr (by omega)) hi90 (by omega))
        have HSTOP := h90
        go_upto_region 26 with (fail)
        clear c0 c1
        generalize wr.alloc (.cells #[.string (mkS ak), .string (mkS av)] 76) = w4 at *
        clear HSTOP
        obtain ⟨pL, cL, rfl, zL1, zL2⟩ := RowE.shape encP HL.out
        obtain ⟨pU, cU, rfl, zU1, zU2⟩ := RowE.shape encN HU.out
        obtain ⟨x0, x1⟩ := RT.out.drew.ic2
        (refine region_items [(false, 0), (false, 1), (false, 2)] 3 (LaterC w4.drew) mix ?hB ?hC ?_; case hB => kernel_rfl); (case hC => (exact Below.refl _ _)); ((with_reducible refine xi_read ?_); (refine ⟨_, rfl, ?_⟩); intro K hK; go_simp; (with_reducible refine hK _ ?_); clear hK K); ((with_reducible refine xi_read ?_); (refine ⟨_, rfl, ?_⟩); intro K hK; go_simp; (with_reducible refine hK _ ?_); clear hK K); ((with_reducible refine xi_read ?_); (refine ⟨_, rfl, ?_⟩); intro K hK; go_simp; (with_reducible refine hK _ ?_); clear hK K); (with_reducible refine xi_nil ?_); (simp only [List.drop_succ_cons, List.drop_zero])
        clear x0 x1
        obtain ⟨y0, y1, yf0, yf1⟩ := R0.out.c2
        have R1 := R0.out.set 0 (.slice pU t.1.length cU) (cs' := #[.slice pU t.1.length cU, .int .i64 0]) rfl
        obtain ⟨m0, m1, -, -⟩ := (R1.set 1 (.int .i64 t.2) (cs' := #[.slice pU t.1.length cU, .int .i64 t.2]) rfl).c2
        have HA1 := RN.apart_small HU.out R0.out (by simp)
        have HA2 := RP.apart_trie HL.out R0.out
        have HUF := Lib.hid (RN.below ((HU.out.set HA1 0 (.slice pU t.1.length cU)).set HA1 1 (.int .i64 t.2)) (Below.refl _ _).drew (Nat.le_refl _))
        have HLF := Lib.hid (RP.below ((HL.out.set HA2 0 (.slice pU t.1.length cU)).set HA2 1 (.int .i64 t.2)) (Below.refl _ _).drew (Nat.le_refl _))
        have HBF := Lib.hid ((HB.out.setCell (p := ⟨w.heap.size, 0, none⟩) (Nat.le_refl _) (.slice pU t.1.length cU)).setCell (p := ⟨w.heap.size, 1, none⟩) (Nat.le_refl _) (.int .i64 t.2)).drew
        clear R1 HA1 HA2
        go_wp2
        refine bodyPost_ret (v := .tuple #[.slice pL l.length cL, .agg #[.slice pU t.1.length cU, .int .i64 t.2], .bool true]) (by simp [results, Try.results11, go_sem, m0, m1]) rfl ?_
        unfold ModelAns
        rw [← HLM.out, ← HT.out]
        exact ⟨_, _, rfl, HLF.out, HUF.out, HBF.out⟩

    · have HLM := Lib.hid (show l = ML by rw [HLI.out]; exact HFS.out i (.inl (by omega)) hi90 (by omega))
      have HSTOP := hlt
      go_upto_region 26 with (fail)
      clear HSTOP
      obtain ⟨pL, cL, rfl, zL1, zL2⟩ := RowE.shape encP HL.out
      obtain ⟨pU, cU, rfl, zU1, zU2⟩ := RowE.shape encN HU.out
      obtain ⟨x0, x1⟩ := RT.out.drew.ic2
      (refine region_items [(false, 0), (false, 1), (false, 2)] 3 (LaterC wr.drew) mix ?hB ?hC ?_; case hB => kernel_rfl); (case hC => (exact Below.refl _ _)); ((with_reducible refine xi_read ?_); (refine ⟨_, rfl, ?_⟩); intro K hK; go_simp; (with_reducible refine hK _ ?_); clear hK K); ((with_reducible refine xi_read ?_); (refine ⟨_, rfl, ?_⟩); intro K hK; go_simp; (with_reducible refine hK _ ?_); clear hK K); ((with_reducible refine xi_read ?_); (refine ⟨_, rfl, ?_⟩); intro K hK; go_simp; (with_reducible refine hK _ ?_); clear hK K); (with_reducible refine xi_nil ?_); (simp only [List.drop_succ_cons, List.drop_zero])
      clear x0 x1
      obtain ⟨y0, y1, yf0, yf1⟩ := R0.out.c2
      have R1 := R0.out.set 0 (.slice pU t.1.length cU) (cs' := #[.slice pU t.1.length cU, .int .i64 0]) rfl
      obtain ⟨m0, m1, -, -⟩ := (R1.set 1 (.int .i64 t.2) (cs' := #[.slice pU t.1.length cU, .int .i64 t.2]) rfl).c2
      have HA1 := RN.apart_small HU.out R0.out (by simp)
      have HA2 := RP.apart_trie HL.out R0.out
      have HUF := Lib.hid (RN.below ((HU.out.set HA1 0 (.slice pU t.1.length cU)).set HA1 1 (.int .i64 t.2)) (Below.refl _ _).drew (Nat.le_refl _))
      have HLF := Lib.hid (RP.below ((HL.out.set HA2 0 (.slice pU t.1.length cU)).set HA2 1 (.int .i64 t.2)) (Below.refl _ _).drew (Nat.le_refl _))
      have HBF := Lib.hid ((HB.out.setCell (p := ⟨w.heap.size, 0, none⟩) (Nat.le_refl _) (.slice pU t.1.length cU)).setCell (p := ⟨w.heap.size, 1, none⟩) (Nat.le_refl _) (.int .i64 t.2)).drew
      clear R1 HA1 HA2
      go_wp2
      refine bodyPost_ret (v := .tuple #[.slice pL l.length cL, .agg #[.slice pU t.1.length cU, .int .i64 t.2], .bool true]) (by simp [results, Try.results11, go_sem, m0, m1]) rfl ?_
      unfold ModelAns
      rw [← HLM.out, ← HT.out]
      exact ⟨_, _, rfl, HLF.out, HUF.out, HBF.out⟩

end Go.Proofs.Ytefmlbckbhlgdaa
namespace Go.Proofs.Ytefmlbckbhlgdaa
open Go.RowKit Go.Shelf
set_option maxRecDepth 100000
set_option maxHeartbeats 16000000 in
theorem trieMakes_walk (w : World) (v : Value) (acts : List Pr) (h : RP w v acts ∧ ∀ a ∈ acts, a.1.length ≤ 140737488351232 ∧ a.2.length ≤ 140737488351232) :
    Calls Try.prog 5 #[v] w fun e w' => e = .returned (.bool true) ∧ Below w.heap.size w w' := by
  have KMOD := Lib.hid (model_any acts v w h.1 h.2)
  have KA := Lib.hid trAlive_any
  have HP := Lib.hid (modelL_pairs acts)
  obtain ⟨pv, cv, rfl, z1, z2⟩ := RowE.shape encP h.1
  have HB := Lib.hid (Below.refl w.heap.size w)
  generalize modelL acts = L at *
  clear h
  have HPT : Hid (pairsT (ofT L) = (L, true)) := Lib.hid (pairsT_of HP.out)
  have HOK : Hid (TOk (ofT L)) := Lib.hid (ofT_ok HP.out)
  have HKID : Hid (likeT (ofT L).1 (ofT L).2 (ofT L).1 (ofT L).2 = true) := Lib.hid ((likeT_iff (ofT_kids L) (ofT_kids L)).2 rfl)
  have HSM : Hid (rowEq (fun a b : Pr => decide (a = b)) L L = true) := Lib.hid ((rowEq_iff (fun x _ y _ => decide_eq_true_iff)).2 rfl)
  have KR := Lib.hid (fun v W (h : TrA W v (ofT L)) => trRight_any (ofT L) HOK.out v W h)
  have KPS := Lib.hid (fun v W (h : TrA W v (ofT L)) => trPairs_any (ofT L) HOK.out v W h)
  simp only [HPT.out, if_true] at KR KPS
  have KRT := Lib.hid (fun v W (h : TrA W v (ofT L)) => trRoot_any L HP.out v W h)
  have KRR := Lib.hid (fun v W (h : RP W v L) => rroot_any L HP.out v W h)
  have KO := Lib.hid (fun v W (h : RP W v L) => rOf_any L v W h (by have := HP.out.2.2; omega) (fun p hm => by have := (mayP_len (HP.out.2.1 p hm)).2.1; omega))
  unfold ModelAns at KMOD
  generalize rootL L = rt at *
  generalize ofT L = t at *
  clear HPT HOK HP
  go_enter Try.func5, Try.ntmps5
  go_upto_region 2 with (go_at_call 11; (with_reducible refine KMOD.out.mono ?_); rintro e w2 ⟨lv, u, rfl, hlv, hu, hb⟩; have HL := Lib.hid hlv; have HU := Lib.hid hu; replace HB := Lib.hid hb; clear hlv hu hb KMOD; obtain ⟨pU, cU, rfl, zU1, zU2⟩ := RowE.shape encN HU.out; obtain ⟨pL, cL, rfl, zL1, zL2⟩ := RowE.shape encP HL.out)
  have hb := (Below.refl w2.heap.size w2).alloc (Nat.le_refl _) (.cells #[.slice pU t.1.length cU, .int .i64 t.2] 37)
  have R4 := Lib.hid (RowAt.new w2 #[.slice pU t.1.length cU, .int .i64 t.2] 37)
  replace HL := Lib.hid (RP.below HL.out hb (Nat.le_refl _))
  replace HU := Lib.hid (RN.below HU.out hb (Nat.le_refl _))
  replace HB := Lib.hid (HB.out.trans (hb.mono HB.out.size))
  clear hb
  generalize w2.alloc (.cells #[.slice pU t.1.length cU, .int .i64 t.2] 37) = w3 at *
  generalize w2.heap.size = k4 at *
  have x0 := (R4.out.drew.ic2).1
  have x1 := (R4.out.drew.ic2).2
  (refine region_items [(false, 0), (false, 1), (false, 2), (false, 3), (false, 4), (true, 5), (true, 6), (false, 7), (false, 8), (false, 9), (false, 10), (true, 11), (false, 12)] 13 (LaterC w3.drew) mix ?hB ?hC ?_; case hB => kernel_rfl); (case hC => (exact Below.refl _ _)); ((with_reducible refine xi_read ?_); (refine ⟨_, rfl, ?_⟩); intro K hK; go_simp; (with_reducible refine hK _ ?_); clear hK K); ((with_reducible refine xi_read ?_); (refine ⟨_, rfl, ?_⟩); intro K hK; go_simp; (with_reducible refine hK _ ?_); clear hK K); ((with_reducible refine xi_read ?_); (refine ⟨_, rfl, ?_⟩); intro K hK; go_simp; (with_reducible refine hK _ ?_); clear hK K); ((with_reducible refine xi_read ?_); (refine ⟨_, rfl, ?_⟩); intro K hK; go_simp; (with_reducible refine hK _ ?_); clear hK K); ((with_reducible refine xi_read ?_); (refine ⟨_, rfl, ?_⟩); intro K hK; go_simp; (with_reducible refine hK _ ?_); clear hK K); ((with_reducible refine xi_eff ?_); (refine ⟨_, rfl, ?_⟩); intro K hK; unfold EX; go_simp; (go_at_call 18; (with_reducible refine (KO.out _ _ (RP.below HL.out (Below.refl w3.heap.size w3).drew (Nat.le_refl _))).mono ?_); rintro e w4 ⟨u4, rfl, hr4, hb4⟩; refine ⟨_, rfl, hb4, hK _ _ ?_⟩; clear hK K)); ((with_reducible refine xi_eff ?_); (refine ⟨_, rfl, ?_⟩); intro K hK; unfold EX; go_simp; (go_at_call 17; (with_reducible refine (rlike_any _ _ _ _ _ _ _ (RN.below (RN.below HU.out (Below.refl w3.heap.size w3).drew (Nat.le_refl _)) hb4 (Nat.le_refl _)) hr4).mono ?_); rintro e w5 ⟨rfl, hb5⟩; have HB5 := hb4.trans (hb5.mono hb4.size); rw [HKID.out]; refine ⟨_, rfl, HB5, hK _ _ ?_⟩; clear hK K)); ((with_reducible refine xi_read ?_); (refine ⟨_, rfl, ?_⟩); intro K hK; go_simp; (with_reducible refine hK _ ?_); clear hK K); ((with_reducible refine xi_read ?_); (refine ⟨_, rfl, ?_⟩); intro K hK; go_simp; (with_reducible refine hK _ ?_); clear hK K); ((with_reducible refine xi_read ?_); (refine ⟨_, rfl, ?_⟩); intro K hK; go_simp; (with_reducible refine hK _ ?_); clear hK K); ((with_reducible refine xi_read ?_); (refine ⟨_, rfl, ?_⟩); intro K hK; go_simp; (with_reducible refine hK _ ?_); clear hK K); ((with_reducible refine xi_eff ?_); (refine ⟨_, rfl, ?_⟩); intro K hK; unfold EX; go_simp; (go_at_call 19; (with_reducible refine (KR.out _ _ (TrA.of (RN.below (RN.below HU.out (Below.refl w3.heap.size w3).drew (Nat.le_refl _)) HB5 (Nat.le_refl _)))).mono ?_); rintro e w6 ⟨rfl, hb6⟩; have HB6 := HB5.trans (hb6.mono HB5.size); refine ⟨_, rfl, HB6, hK _ _ ?_⟩; clear hK K)); ((with_reducible refine xi_read ?_); (refine ⟨_, rfl, ?_⟩); intro K hK; go_simp; (with_reducible refine hK _ ?_); clear hK K); (with_reducible refine xi_nil ?_); (simp only [List.drop_succ_cons, List.drop_zero])
  have HBD := (Below.refl w3.heap.size w3).drew
  have hb := HBD.trans (HB6.mono HBD.size)
  replace HL := Lib.hid (RP.below HL.out hb (Nat.le_refl _)); replace HU := Lib.hid (RN.below HU.out hb (Nat.le_refl _)); replace R4 := Lib.hid (R4.out.belowS hb); replace HB := Lib.hid (HB.out.trans (hb.mono HB.out.size))
  clear hb hb4 hb5 hb6 HB5 HB6 HBD hr4 x0 x1 KO KR HKID
  obtain ⟨x0, x1, -, -⟩ := R4.out.c2
  go_upto_region 5 with (go_at_call 20; (with_reducible refine (KPS.out _ _ (TrA.of HU.out)).mono ?_); rintro e w7 ⟨⟨v7, rfl, hl7⟩, hb⟩; have HL7 := Lib.hid (show RP w7 v7 L from hl7); clear hl7; replace HL := Lib.hid (RP.below HL.out hb (Nat.le_refl _)); replace HU := Lib.hid (RN.below HU.out hb (Nat.le_refl _)); replace R4 := Lib.hid (R4.out.belowS hb); replace HB := Lib.hid (HB.out.trans (hb.mono HB.out.size)); clear hb KPS x0 x1; obtain ⟨x0, x1, -, -⟩ := R4.out.c2; obtain ⟨p7, c7, rfl, -, -⟩ := RowE.shape encP HL7.out)
  go_upto_region 6 with (go_at_call 21; (with_reducible refine (KRT.out _ _ (TrA.of HU.out)).mono ?_); rintro e w8 ⟨rfl, hb⟩; replace HL7 := Lib.hid (RP.below HL7.out hb (Nat.le_refl _)); replace HL := Lib.hid (RP.below HL.out hb (Nat.le_refl _)); replace HU := Lib.hid (RN.below HU.out hb (Nat.le_refl _)); replace R4 := Lib.hid (R4.out.belowS hb); replace HB := Lib.hid (HB.out.trans (hb.mono HB.out.size)); clear hb KRT x0 x1)
  have hq : ((mkS rt).toList == (mkS rt).toList) = true := beq_self_eq_true _
  go_wp2_with (first
    | (go_at_call 12; (with_reducible refine (KA.out _).mono ?_); rintro e w9 ⟨rfl, hb⟩; replace HL7 := Lib.hid (RP.below HL7.out hb (Nat.le_refl _)); replace HL := Lib.hid (RP.below HL.out hb (Nat.le_refl _)); replace HU := Lib.hid (RN.below HU.out hb (Nat.le_refl _)); replace R4 := Lib.hid (R4.out.belowS hb); replace HB := Lib.hid (HB.out.trans (hb.mono HB.out.size)); clear hb KA)
    | (go_at_call 22; (with_reducible refine (rsame_any _ _ _ _ _ HL7.out HL.out).mono ?_); rintro e w10 ⟨rfl, hb⟩; rw [HSM.out]; replace HL := Lib.hid (RP.below HL.out hb (Nat.le_refl _)); replace HU := Lib.hid (RN.below HU.out hb (Nat.le_refl _)); replace R4 := Lib.hid (R4.out.belowS hb); replace HB := Lib.hid (HB.out.trans (hb.mono HB.out.size)); clear hb HL7)
    | (go_at_call 23; (with_reducible refine (KRR.out _ _ HL.out).mono ?_); rintro e w11 ⟨rfl, hb⟩; replace HL := Lib.hid (RP.below HL.out hb (Nat.le_refl _)); replace HU := Lib.hid (RN.below HU.out hb (Nat.le_refl _)); replace R4 := Lib.hid (R4.out.belowS hb); replace HB := Lib.hid (HB.out.trans (hb.mono HB.out.size)); clear hb KRR))
  go_ret
  exact ⟨rfl, HB.out⟩
end Go.Proofs.Ytefmlbckbhlgdaa
namespace Go.Proofs.Ytefmlbckbhlgdaa
open Go.RowKit Go.ChangeShapes Go.WideShapes Go.ChangeAt
set_option maxRecDepth 100000
/-- What comes in weighs no more than an address reaches. -/
def Light {H : Type} (t : TypeId) (d : DataW H) : Prop := ∀ n ∈ d.weights Try.prog t, n ≤ reachBytes
theorem small_cons {H : Type} {t : TypeId} {ts : List TypeId} {d : DataW H} {r : List (DataW H)} (h : (DataW.weightsEach Try.prog (t :: ts) (d :: r)).all (· ≤ reachBytes) = true) : Light t d ∧ (DataW.weightsEach Try.prog ts r).all (· ≤ reachBytes) = true := by
  rw [DataW.weightsEach, List.all_append, Bool.and_eq_true] at h
  exact ⟨fun n hn => of_decide_eq_true (List.all_eq_true.1 h.1 n hn), h.2⟩
theorem light_string {H : Type} {t : TypeId} {s : ByteArray} (h : Light (H := H) t (.lit (.string s.data.toList))) : s.size ≤ 140737488351232 := by
  have := h s.data.toList.length (by simp [DataW.weights])
  have e : s.data.toList.length = s.size := rfl
  rw [e] at this
  exact this
theorem light_two {H : Type} {t : TypeId} {fs : Array Field} {a b : TypeId} {x y : DataW H} (ht : Try.prog.underlying t = some (.struct fs)) (hf : fs.toList.map (·.type) = [a, b]) (h : Light t (.agg [x, y])) : Light a x ∧ Light b y := by
  unfold Light at h
  rw [DataW.weights, ht] at h
  simp only [hf, DataW.weightsEach, List.append_nil, List.mem_append] at h
  exact ⟨fun n hn => h n (.inl hn), fun n hn => h n (.inr hn)⟩
theorem light_all {H : Type} {e : TypeId} : ∀ {l : List (DataW H)}, (∀ n ∈ DataW.weightsAll Try.prog e l, n ≤ reachBytes) → ∀ d ∈ l, Light e d
  | [], _, d, hd => by cases hd
  | x :: l, h, d, hd => by
    rw [DataW.weightsAll] at h
    rcases List.mem_cons.1 hd with rfl | hd
    · exact fun n hn => h n (List.mem_append_left _ hn)
    · exact light_all (fun n hn => h n (List.mem_append_right _ hn)) d hd
theorem light_slice {H : Type} {t e : TypeId} {l s : List (DataW H)} (ht : Try.prog.underlying t = some (.slice e)) (h : Light t (.slice l s)) : (l.length + s.length) * Try.prog.bytesOf e ≤ reachBytes ∧ ∀ d ∈ l, Light e d := by
  unfold Light at h
  rw [DataW.weights, ht] at h
  simp only [List.mem_cons, List.mem_append] at h
  exact ⟨h _ (.inl rfl), light_all fun n hn => h n (.inr (.inl hn))⟩

theorem cAct : Try.prog.cellsOf 76 = 2 := by kernel_rfl
theorem cStr : Try.prog.cellsOf 9 = 1 := by kernel_rfl
theorem row_of_cellsT {α : Type} {E : Enc α} {w : World} {a : Addr} {len cap : Nat} {q : Nat → α} (h1 : len ≤ cap) (h2 : cap ≤ maxLen) (h : ∀ i, i < len → ∀ r u, (E.cells (q i))[r]? = some u → w.cell? (a.add (i * E.k + r)) = some u) :
    RowE E w (.slice (some a) len cap) ((List.range len).map q) := by
  refine .inr ⟨a, cap, by simp, by simpa using h1, h2, fun j u hj => ?_⟩
  have hlt : j < ((List.range len).map q).length * E.k := by
    rw [← flat_length]; exact (List.getElem?_eq_some_iff.1 hj).1
  rw [List.length_map, List.length_range] at hlt
  have hk := E.pos
  have hi : j / E.k < len := (Nat.div_lt_iff_lt_mul hk).2 hlt
  have hr : j % E.k < E.k := Nat.mod_lt _ hk
  have e : j = j / E.k * E.k + j % E.k := by rw [Nat.mul_comm]; exact (Nat.div_add_mod j E.k).symm
  have hget : ((List.range len).map q)[j / E.k]? = some (q (j / E.k)) := by simp [hi]
  have := flat_get E hget (j % E.k) hr
  rw [← e, hj] at this
  have h3 := h _ hi _ _ this.symm
  rwa [← e] at h3

def ActOk (a : Pr) : Prop := a.1.length ≤ 140737488351232 ∧ a.2.length ≤ 140737488351232
theorem act_trod {H : Type} {enc : TypeId × Value → H} {w : World} {fuel : Nat} {cs : List Value} {x : DataW H × List MemPlace} (hlen : cs.length = 2) (h : DataW.trod enc Try.prog w 0 (fun _ => true) true fuel 76 cs = some x) (hw : Light 76 x.1) :
    ∃ b : Pr, cs = encP.cells b ∧ ActOk b := by
  match cs, hlen with
  | [c0, c1], _ =>
    obtain ⟨y0, y1, n, rfl, _, g0, g1⟩ := trod_struct2 Try.underlying76 h
    replace g0 : DataW.trod enc Try.prog w 0 (fun _ => true) true n 9 (([c0, c1].drop 0).take (Try.prog.cellsOf 9)) = some y0 := g0
    replace g1 : DataW.trod enc Try.prog w 0 (fun _ => true) true n 9 (([c0, c1].drop 1).take (Try.prog.cellsOf 9)) = some y1 := g1
    rw [cStr] at g0 g1
    obtain ⟨hw0, hw1⟩ := light_two Try.underlying76 (a := 9) (b := 9) rfl hw
    obtain ⟨a, e0, rfl, _⟩ := DataW.trod_string Try.underlying9 (cs := [c0]) g0
    obtain ⟨b, e1, rfl, _⟩ := DataW.trod_string Try.underlying9 (cs := [c1]) g1
    have z0 := light_string hw0
    have z1 := light_string hw1
    rw [← bl_length] at z0 z1
    simp at e0 e1
    subst e0 e1
    exact ⟨(bl a, bl b), rfl, z0, z1⟩
theorem acts_trod {H : Type} {enc : TypeId × Value → H} {w : World} {fuel : Nat} {cs : List Value} {x : DataW H × List MemPlace} (h : DataW.trod enc Try.prog w 0 (fun _ => true) true fuel 33 cs = some x) (hw : Light 33 x.1) :
    ∃ v l, cs = [v] ∧ RP w v l ∧ ∀ a ∈ l, ActOk a := by
  rcases Go.Deep.open_slice Try.underlying33 h with ⟨rfl, _⟩ | ⟨a, len, cap, m, n, D, Pl, rfl, _, hl, hm, hmm, rfl, hx⟩
  · exact ⟨_, [], rfl, .inl ⟨rfl, rfl⟩, fun _ h => by cases h⟩
  · rw [cAct] at hx
    have hw2 := (light_slice Try.underlying33 hw).2
    obtain ⟨q, hq⟩ := Go.Deep.choose_lt (α := Pr) (n := len) (p := fun i b => (∀ r u, (encP.cells b)[r]? = some u → w.cell? (a.add (i * 2 + r)) = some u) ∧ ActOk b) (fun i hi => by
      obtain ⟨cs', h1, h2⟩ := hx i (by simp at hmm; omega)
      obtain ⟨_, hlen, hcell⟩ := World.cells?_some h1
      obtain ⟨b, rfl, ho⟩ := act_trod hlen h2 (hw2 _ (List.mem_map.2 ⟨i, List.mem_range.2 hi, rfl⟩))
      refine ⟨b, fun r u hr => ?_, ho⟩
      have hr3 : r < 2 := by have := (List.getElem?_eq_some_iff.1 hr).1; simpa [encP] using this
      have := hcell r hr3
      rw [Go.Deep.add_add] at this
      rw [this]
      exact hr)
    refine ⟨_, _, rfl, row_of_cellsT (E := encP) hl hm (fun i hi => (hq i hi).1), fun s hs => ?_⟩
    obtain ⟨i, hi, rfl⟩ := List.mem_map.1 hs
    exact (hq i (List.mem_range.1 hi)).2
def ActsRep (w : World) (v : Value) (l : List Pr) : Prop := RP w v l ∧ ∀ a ∈ l, a.1.length ≤ 140737488351232 ∧ a.2.length ≤ 140737488351232
theorem acts_open {H : Type} {enc : TypeId × Value → H} {w : World} {base : Nat} {v : Value} {d : DataW H} {p : List MemPlace} (hv : Value.okWide Try.prog w .any base 33 v) (h : DataW.Trod enc Try.prog w 0 (fun _ => true) true 33 v d p) (hw : Light 33 d) : ∃ x, ActsRep w v x := by
  obtain ⟨a0, len, cap, rfl⟩ := okWide_slice Try.underlying33 hv
  obtain ⟨fuel, hf⟩ := h
  obtain ⟨u, l, e, hl⟩ := acts_trod hf hw
  simp [Value.cells] at e
  subst e
  exact ⟨l, hl⟩

instance : Inhabited Nd := ⟨⟨0, [], [], []⟩⟩
end Go.Proofs.Ytefmlbckbhlgdaa
namespace Go.Proofs.Ytefmlbckbhlgdaa
open Go.ChangeShapes Go.WideShapes Go.ChangeAt Go.RowKit
open Go.ChangeMaps (open_string)
set_option maxRecDepth 100000 in
theorem trieMakes_calls (H : Type) (enc : TypeId × Value → H) (W : World) (args : Array Value) (ds : List (DataW H)) (p : List MemPlace)
    (T : Told enc Try.prog Try.f5.params.toList W args.toList ds p) :
    Calls Try.prog 5 args W fun e W' => e = .returned (.bool true) ∧ Below W.heap.size W W' := by
  obtain ⟨hA, ⟨base, hval⟩, hlt, hsmall⟩ := T
  rw [Try.params5] at hA hval hsmall
  obtain ⟨v0, vs0, d0, ds0, p0, q0, hargs, rfl, rfl, h0, r0⟩ := trodAll_cons hA
  obtain ⟨rfl, rfl, rfl⟩ := trodAll_nil r0
  rw [hargs] at hval
  obtain rfl : args = #[v0] := by cases args; simp_all
  obtain ⟨hw0, hs0⟩ := small_cons hsmall
  obtain ⟨a0, w0⟩ : ∃ x, ActsRep W v0 x := acts_open (hval 0 33 v0 rfl rfl) h0 hw0
  exact trieMakes_walk W v0 a0 w0

set_option maxRecDepth 100000 in
theorem trieMakes_lifted (os : Os) (started : os.Started) (H : Type) (enc : TypeId × Value → H) :
    ReturnsInHanded {} Try.checked os 5 .any (Rows.trieMakesSpec.pre6 enc Try.prog Try.f5 Rows.trieMakesRow.domain false) (Rows.trieMakesSpec.post enc Try.prog Try.f5 false true false false) :=
  law_lifted (C := Try.checked) os started Try.own (by kernel_rfl) Try.func5
    (ChangeSpec.witness6 (enc := enc) (C := Try.checked) false ⟨#[], #[.slice none 0 0], []⟩ 20 (by kernel_rfl) (by kernel_rfl) (by kernel_rfl) (by kernel_rfl))
    Try.laidOut (by kernel_rfl) rfl Try.underlying4 rfl
    (fun ds h => by match ds, h with | [_], _ => rfl)
    (fun W args ds p T => trieMakes_calls H enc W args ds p T)

/-- For every input the law returns true. -/
theorem trieMakes_holds : Rows.TrieMakesSaid :=
  OpenClaim.holds_of_wide 5 Try.f5 rfl rfl rfl rfl rfl rfl rfl ⟨rfl, rfl, rfl, rfl, rfl⟩ rfl rfl rfl rfl rfl (by kernel_rfl) Try.func5 (by kernel_rfl)
    (of_decide_eq_true (by kernel_rfl)) (by unfold Func.isWrapper; first | (rw [if_pos (by decide +kernel)]; kernel_rfl) | (rw [if_neg (by decide +kernel)]; exact ⟨rfl, rfl⟩))
    (fun os started H enc _ => trieMakes_lifted os started H enc)
#print axioms trieMakes_holds
end Go.Proofs.Ytefmlbckbhlgdaa

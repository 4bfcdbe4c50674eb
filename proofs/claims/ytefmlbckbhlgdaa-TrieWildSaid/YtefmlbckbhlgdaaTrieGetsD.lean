/- TrieGets, walked. The trie's laws: acts, tries and strings that come in; no string is longer than what an address reaches. TrieGets: for every input the law returns true, and each argument reads as it did. No condition. -/
import Derived.Deep.Slices
import Derived.Deep.Strs
import Derived.Lib.SmallJoins
import Derived.Test.YtefmlbckbhlgdaaTg0
import Derived.Test.YtefmlbckbhlgdaaTg16
namespace Go.Proofs.Ytefmlbckbhlgdaa
open Go.RowKit Go.Shelf
set_option maxRecDepth 100000
set_option maxHeartbeats 16000000 in
theorem trieGets_walk (w : World) (v : Value) (acts : List Pr) (h : RP w v acts ∧ ∀ a ∈ acts, a.1.length ≤ 140737488351232 ∧ a.2.length ≤ 140737488351232) (ks : ByteArray) (hks : ks.size ≤ 140737488351232) (vs : ByteArray) (hvs : vs.size ≤ 140737488351232) :
    Calls Try.prog 4 #[v, .string ks, .string vs] w fun e w' => e = .returned (.bool true) ∧ Below w.heap.size w w' := by
  have KMOD := Lib.hid (model_any acts v w h.1 h.2)
  have KA := Lib.hid trAlive_any
  have HP := Lib.hid (modelL_pairs acts)
  obtain ⟨pv, cv, rfl, z1, z2⟩ := RowE.shape encP h.1
  have HB := Lib.hid (Below.refl w.heap.size w)
  rw [← mk_bl ks, ← mk_bl vs]
  rw [← bl_length] at hks hvs
  generalize bl ks = ak at *
  generalize bl vs = av at *
  generalize modelL acts = L at *
  clear h
  have HMEM : Hid (∀ (i : Nat) (x : Pr), L[i]? = some x → getL x.1 L = some x.2) := Lib.hid (fun i x hx => getL_of_mem HP.out.1 (List.mem_of_getElem? hx))
  have HPT : Hid (pairsT (ofT L) = (L, true)) := Lib.hid (pairsT_of HP.out)
  have HOK : Hid (TOk (ofT L)) := Lib.hid (ofT_ok HP.out)
  have HKID : Hid (likeT (ofT L).1 (ofT L).2 (ofT L).1 (ofT L).2 = true) := Lib.hid ((likeT_iff (ofT_kids L) (ofT_kids L)).2 rfl)
  have KG := Lib.hid (fun k v W (h : TrA W v (ofT L)) => trGet_any (ofT L) HOK.out k v W h)
  simp only [HPT.out, if_true, Bool.true_and] at KG
  have hl64 := HP.out.2.2
  unfold ModelAns at KMOD
  generalize hT : ofT L = t at *
  have HT := Lib.hid hT
  clear hT
  go_enter Try.func4, Try.ntmps4
  go_upto_region 2 with (go_at_call 11; (with_reducible refine KMOD.out.mono ?_); rintro e w2 ⟨lv, u, rfl, hlv, hu, hb⟩; have HL := Lib.hid hlv; have HU := Lib.hid hu; replace HB := Lib.hid hb; clear hlv hu hb KMOD; obtain ⟨pU, cU, rfl, zU1, zU2⟩ := RowE.shape encN HU.out; obtain ⟨pL, cL, rfl, zL1, zL2⟩ := RowE.shape encP HL.out)
  have hb := (Below.refl w2.heap.size w2).alloc (Nat.le_refl _) (.cells #[.slice pU t.1.length cU, .int .i64 t.2] 37)
  have R8 := Lib.hid (RowAt.new w2 #[.slice pU t.1.length cU, .int .i64 t.2] 37)
  replace HL := Lib.hid (RP.below HL.out hb (Nat.le_refl _))
  replace HU := Lib.hid (RN.below HU.out hb (Nat.le_refl _))
  replace HB := Lib.hid (HB.out.trans (hb.mono HB.out.size))
  clear hb
  generalize w2.alloc (.cells #[.slice pU t.1.length cU, .int .i64 t.2] 37) = w3 at *
  generalize w2.heap.size = k8 at *

  go_upto_region 5 with (go_at_call 12; (with_reducible refine (KA.out _).mono ?_); rintro e w4 ⟨rfl, hb⟩; replace HL := Lib.hid (RP.below HL.out hb (Nat.le_refl _)); replace HU := Lib.hid (RN.below HU.out hb (Nat.le_refl _)); replace R8 := Lib.hid (R8.out.belowS hb); replace HB := Lib.hid (HB.out.trans (hb.mono HB.out.size)); clear hb)
  clear KA
  go_loopw [42] (fun s wr => ∃ i : Nat, i ≤ L.length ∧ s = .int .i64 i ∧ Hid (RP wr (.slice pL L.length cL) L) ∧ Hid (RN wr (.slice pU t.1.length cU) t.1) ∧ Hid (RowAt wr k8 #[.slice pU t.1.length cU, .int .i64 t.2] 37) ∧ Hid (Below w.heap.size w wr)) (fun s _ => L.length - (intOf s).toNat)
  case atStart => exact ⟨0, Nat.zero_le _, rfl, HL, HU, R8, HB⟩
  case round =>
    clear HL HU R8 HB
    obtain ⟨i, hin, rfl, hl1, hu1, hr1, hb1⟩ := hrel
    have HL := Lib.hid hl1.out
    have HU := Lib.hid hu1.out
    have R8 := Lib.hid hr1.out
    have HB := Lib.hid hb1.out
    clear hl1 hu1 hr1 hb1
    by_cases hlt : i < L.length
    · obtain ⟨x, hx⟩ : ∃ x, L[i]? = some x := ⟨_, List.getElem?_eq_getElem hlt⟩
      have HG := Lib.hid (HMEM.out i x hx)
      obtain ⟨a, rfl, c0, c1⟩ := RP.at HL.out hx
      obtain ⟨xk, xv⟩ := x
      simp only at c0 c1
      replace HG : Hid (getL xk L = some xv) := HG
      have K1 := Lib.hid (KG.out xk)
      rw [HG.out] at K1
      simp only [Option.isSome_some, Option.getD_some] at K1
      clear hx HG
      go_upto_region 7 with (fail)
      have hb := (Below.refl wr.heap.size wr).alloc (Nat.le_refl _) (.cells #[.string (mkS xk), .string (mkS xv)] 41)
      have R11 := Lib.hid (RowAt.new wr #[.string (mkS xk), .string (mkS xv)] 41)
      replace HL := Lib.hid (RP.below HL.out hb (Nat.le_refl _))
      replace HU := Lib.hid (RN.below HU.out hb (Nat.le_refl _))
      replace R8 := Lib.hid (R8.out.belowS hb)
      replace HB := Lib.hid (HB.out.trans (hb.mono HB.out.size))
      clear hb
      generalize wr.alloc (.cells #[.string (mkS xk), .string (mkS xv)] 41) = w5 at *
      generalize wr.heap.size = k11 at *

      obtain ⟨y0, y1, -, -⟩ := R11.out.c2
      obtain ⟨x0, x1, -, -⟩ := R8.out.c2
      go_upto_region 8 with (go_at_call 13; (with_reducible refine (K1.out _ _ (TrA.of HU.out)).mono ?_); rintro e w6 ⟨rfl, hb⟩; replace HL := Lib.hid (RP.below HL.out hb (Nat.le_refl _)); replace HU := Lib.hid (RN.below HU.out hb (Nat.le_refl _)); replace R8 := Lib.hid (R8.out.belowS hb); replace HB := Lib.hid (HB.out.trans (hb.mono HB.out.size)); replace R11 := Lib.hid (R11.out.belowS hb); clear hb)
      clear x0 x1 y0 y1 c0 c1
      obtain ⟨y0, y1, -, -⟩ := R11.out.c2
      have hq : ((mkS xv).toList == (mkS xv).toList) = true := beq_self_eq_true _
      go_wp2
      exact ⟨⟨i + 1, by omega, by simp, HL, HU, R8, HB⟩, by simp [intOf]; omega⟩
    · have HSTOP := hlt
      obtain ⟨km, hkm⟩ : ∃ m, min ak.length 40 = m := ⟨_, rfl⟩
      obtain ⟨vm, hvm⟩ : ∃ m, min av.length 600 = m := ⟨_, rfl⟩
      have e1 := extract_min ak 40 km hkm.symm
      have e2 := extract_min av 600 vm hvm.symm
      have z3 := mk_size ak
      have z4 := mk_size av
      have q1 : min (ak.length : Int) 40 = km := by omega
      have q2 : min (av.length : Int) 600 = vm := by omega
      have b1 : (km : Int) ≤ ak.length := by omega
      have b2 : (vm : Int) ≤ av.length := by omega
      have b3 : km ≤ ak.length := by omega
      have b4 : vm ≤ av.length := by omega
      generalize ak.take 40 = key at *
      generalize av.take 600 = val at *
      go_upto_region 11 with (fail)
      clear hkm hvm HSTOP hlt
      (refine region_tail 11 mix ?hB ?_; case hB => kernel_rfl); (simp only [List.take_succ_cons, List.take_zero, List.drop_succ_cons, List.drop_zero]; (iterate 11 (with_reducible refine wpStill_step ?_; intro K hK; go_simp; with_reducible refine hK _ ?_; clear hK K)); with_reducible refine wpStill_nil ?_)
      replace HL := Lib.hid (RP.below HL.out (Below.refl wr.heap.size wr).drew (Nat.le_refl _))
      replace HU := Lib.hid (RN.below HU.out (Below.refl wr.heap.size wr).drew (Nat.le_refl _))
      replace R8 := Lib.hid R8.out.drew
      replace HB := Lib.hid HB.out.drew
      clear e1 e2 z3 z4 q1 q2 b1 b2 b3 b4
      generalize wr.drew = w5 at *
      have KP := Lib.hid (fun v W (h : TrA W v t) => trPut_any t HOK.out key val v W h)
      have KM := Lib.hid (fun W => rmay_any key val W)
      replace KG := Lib.hid (KG.out key)
      unfold putR at KP
      simp only [HPT.out, Bool.true_and] at KP
      cases hm : mayP (key, val) with
      | false =>
        rw [hm] at KP KM
        simp only [Bool.false_eq_true, if_false] at KP
        clear hm
        generalize (getL key L).isSome = had at *
        generalize (getL key L).getD [] = old at *
        obtain ⟨x0, x1, -, -⟩ := R8.out.c2
        go_upto_region 13 with (go_at_call 13; (with_reducible refine (KG.out _ _ (TrA.of HU.out)).mono ?_); rintro e w6 ⟨rfl, hb⟩; replace HL := Lib.hid (RP.below HL.out hb (Nat.le_refl _)); replace HU := Lib.hid (RN.below HU.out hb (Nat.le_refl _)); replace R8 := Lib.hid (R8.out.belowS hb); replace HB := Lib.hid (HB.out.trans (hb.mono HB.out.size)); clear hb KG x0 x1)
        obtain ⟨x0, x1, -, -⟩ := R8.out.c2
        go_upto_region 14 with (go_at_call 14; (with_reducible refine (KP.out _ _ (TrA.of HU.out)).mono ?_); rintro e w7 ⟨v7, rfl, ⟨u7, rfl, hu7⟩, hb⟩; have HU7 := Lib.hid hu7; clear hu7; replace HL := Lib.hid (RP.below HL.out hb (Nat.le_refl _)); replace HU := Lib.hid (RN.below HU.out hb (Nat.le_refl _)); replace R8 := Lib.hid (R8.out.belowS hb); replace HB := Lib.hid (HB.out.trans (hb.mono HB.out.size)); clear hb; obtain ⟨p7, c7, rfl, -, -⟩ := RowE.shape encN HU7.out)
        clear x0 x1 KP

        have hb := (Below.refl w7.heap.size w7).alloc (Nat.le_refl _) (.cells #[.slice p7 zT.1.length c7, .int .i64 zT.2] 37)
        have R16 := Lib.hid (RowAt.new w7 #[.slice p7 zT.1.length c7, .int .i64 zT.2] 37)
        replace HL := Lib.hid (RP.below HL.out hb (Nat.le_refl _))
        replace HU := Lib.hid (RN.below HU.out hb (Nat.le_refl _))
        replace HU7 := Lib.hid (RN.below HU7.out hb (Nat.le_refl _))
        replace R8 := Lib.hid (R8.out.belowS hb)
        replace HB := Lib.hid (HB.out.trans (hb.mono HB.out.size))
        clear hb
        generalize w7.alloc (.cells #[.slice p7 zT.1.length c7, .int .i64 zT.2] 37) = w9 at *
        generalize w7.heap.size = k16 at *

        go_wp2_with (go_at_call 15; (with_reducible refine (KM.out _).mono ?_); rintro e w9 ⟨rfl, rfl⟩)
        go_ret
        exact ⟨rfl, HB.out⟩
      | true =>
        rw [hm] at KP KM
        simp only at KP
        cases hg : getL key L with
        | none =>
          rw [hg] at KG KP
          by_cases hf : L.length < 64
          · simp only [Option.isSome_none, Option.getD_none, Bool.false_or, hf, decide_true, if_true] at KP KG
            have HP2 : Hid (Pairs (putL key val L)) := Lib.hid (HP.out.put hm (.inr hf))
            have HD2 : Hid (delL key (putL key val L) = L) := Lib.hid (by rw [del_put, delL_not hg])
            have HPT2 : Hid (pairsT (ofT (putL key val L)) = (putL key val L, true)) := Lib.hid (pairsT_of HP2.out)
            have HOK2 : Hid (TOk (ofT (putL key val L))) := Lib.hid (ofT_ok HP2.out)
            have KG2 := Lib.hid (fun k v W (h : TrA W v (ofT (putL key val L))) => trGet_any (ofT (putL key val L)) HOK2.out k v W h)
            simp only [HPT2.out, if_true, Bool.true_and] at KG2
            have KG3 := Lib.hid (KG2.out key)
            rw [getL_put] at KG3
            simp only [Option.isSome_some, Option.getD_some] at KG3
            have HNE : Hid (∀ (i : Nat) (x : Pr), L[i]? = some x → x.1 ≠ key → getL x.1 (putL key val L) = some x.2) := Lib.hid (fun i x hx hne => by rw [getL_put_ne hne, HMEM.out i x hx])
            have KD := Lib.hid (fun v W (h : TrA W v (ofT (putL key val L))) => trDel_any (ofT (putL key val L)) HOK2.out key v W h)
            unfold delR at KD
            simp only [HPT2.out, if_true, getL_put, Option.isSome_some, HD2.out] at KD
            rw [HT.out] at KD
            have KG4 := Lib.hid (KG.out)

            clear hm hg HP HMEM HPT HOK HPT2 HOK2 HP2 KM HD2
            generalize putL key val L = L2 at *
            generalize ofT L2 = t2 at *
            obtain ⟨x0, x1, -, -⟩ := R8.out.c2
            go_upto_region 13 with (go_at_call 13; (with_reducible refine (KG.out _ _ (TrA.of HU.out)).mono ?_); rintro e w6 ⟨rfl, hb⟩; replace HL := Lib.hid (RP.below HL.out hb (Nat.le_refl _)); replace HU := Lib.hid (RN.below HU.out hb (Nat.le_refl _)); replace R8 := Lib.hid (R8.out.belowS hb); replace HB := Lib.hid (HB.out.trans (hb.mono HB.out.size)); clear hb KG x0 x1)
            obtain ⟨x0, x1, -, -⟩ := R8.out.c2
            go_upto_region 14 with (go_at_call 14; (with_reducible refine (KP.out _ _ (TrA.of HU.out)).mono ?_); rintro e w7 ⟨v7, rfl, ⟨u7, rfl, hu7⟩, hb⟩; have HU7 := Lib.hid hu7; clear hu7; replace HL := Lib.hid (RP.below HL.out hb (Nat.le_refl _)); replace HU := Lib.hid (RN.below HU.out hb (Nat.le_refl _)); replace R8 := Lib.hid (R8.out.belowS hb); replace HB := Lib.hid (HB.out.trans (hb.mono HB.out.size)); clear hb; obtain ⟨p7, c7, rfl, -, -⟩ := RowE.shape encN HU7.out)
            clear x0 x1 KP
            have hb := (Below.refl w7.heap.size w7).alloc (Nat.le_refl _) (.cells #[.slice p7 t2.1.length c7, .int .i64 t2.2] 37)
            have R16 := Lib.hid (RowAt.new w7 #[.slice p7 t2.1.length c7, .int .i64 t2.2] 37)
            replace HL := Lib.hid (RP.below HL.out hb (Nat.le_refl _))
            replace HU := Lib.hid (RN.below HU.out hb (Nat.le_refl _))
            replace HU7 := Lib.hid (RN.below HU7.out hb (Nat.le_refl _))
            replace R8 := Lib.hid (R8.out.belowS hb)
            replace HB := Lib.hid (HB.out.trans (hb.mono HB.out.size))
            clear hb
            generalize w7.alloc (.cells #[.slice p7 t2.1.length c7, .int .i64 t2.2] 37) = w9 at *
            generalize w7.heap.size = k16 at *
            obtain ⟨z0, z1, -, -⟩ := R16.out.c2
            go_upto_region 18 with (go_at_call 13; (with_reducible refine (KG3.out _ _ (TrA.of HU7.out)).mono ?_); rintro e w10 ⟨rfl, hb⟩; replace HL := Lib.hid (RP.below HL.out hb (Nat.le_refl _)); replace HU := Lib.hid (RN.below HU.out hb (Nat.le_refl _)); replace HU7 := Lib.hid (RN.below HU7.out hb (Nat.le_refl _)); replace R8 := Lib.hid (R8.out.belowS hb); replace R16 := Lib.hid (R16.out.belowS hb); replace HB := Lib.hid (HB.out.trans (hb.mono HB.out.size)); clear hb KG3)
            clear z0 z1
            go_loopw [104] (fun s wr => ∃ i : Nat, i ≤ L.length ∧ s = .int .i64 i ∧ Hid (RP wr (.slice pL L.length cL) L) ∧ Hid (RN wr (.slice pU t.1.length cU) t.1) ∧ Hid (RN wr (.slice p7 t2.1.length c7) t2.1) ∧ Hid (RowAt wr k8 #[.slice pU t.1.length cU, .int .i64 t.2] 37) ∧ Hid (RowAt wr k16 #[.slice p7 t2.1.length c7, .int .i64 t2.2] 37) ∧ Hid (Below w.heap.size w wr)) (fun s _ => L.length - (intOf s).toNat)
            case atStart => exact ⟨0, Nat.zero_le _, rfl, HL, HU, HU7, R8, R16, HB⟩
            case round =>
              clear HL HU HU7 R8 R16 HB
              obtain ⟨i, hin, rfl, hl1, hu1, hu71, hr1, hr16, hb1⟩ := hrel
              have HL := Lib.hid hl1.out
              have HU := Lib.hid hu1.out
              have HU7 := Lib.hid hu71.out
              have R8 := Lib.hid hr1.out
              have R16 := Lib.hid hr16.out
              have HB := Lib.hid hb1.out
              clear hl1 hu1 hu71 hr1 hr16 hb1
              by_cases hlt : i < L.length
              · obtain ⟨x, hx⟩ : ∃ x, L[i]? = some x := ⟨_, List.getElem?_eq_getElem hlt⟩
                have HG := Lib.hid (HNE.out i x hx)
                obtain ⟨a, rfl, c0, c1⟩ := RP.at HL.out hx
                obtain ⟨xk, xv⟩ := x
                simp only at c0 c1
                replace HG : Hid (xk ≠ key → getL xk L2 = some xv) := HG
                have K1 := Lib.hid (KG2.out xk)
                clear hx
                go_upto_region 20 with (fail)
                have hb := (Below.refl wr.heap.size wr).alloc (Nat.le_refl _) (.cells #[.string (mkS xk), .string (mkS xv)] 41)
                have R21 := Lib.hid (RowAt.new wr #[.string (mkS xk), .string (mkS xv)] 41)
                replace HL := Lib.hid (RP.below HL.out hb (Nat.le_refl _))
                replace HU := Lib.hid (RN.below HU.out hb (Nat.le_refl _))
                replace HU7 := Lib.hid (RN.below HU7.out hb (Nat.le_refl _))
                replace R8 := Lib.hid (R8.out.belowS hb)
                replace R16 := Lib.hid (R16.out.belowS hb)
                replace HB := Lib.hid (HB.out.trans (hb.mono HB.out.size))
                clear hb
                generalize wr.alloc (.cells #[.string (mkS xk), .string (mkS xv)] 41) = w5 at *
                generalize wr.heap.size = k21 at *
                clear c0 c1
                obtain ⟨y0, y1, -, -⟩ := R21.out.c2
                obtain ⟨x0, x1, -, -⟩ := R16.out.c2
                by_cases hxk : xk = key
                · have hq : ((mkS xk).toList == (mkS key).toList) = true := by rw [hxk]; exact beq_self_eq_true _
                  clear HG hxk
                  generalize (getL xk L2).isSome = has2 at *
                  generalize (getL xk L2).getD [] = got2 at *
                  go_upto_region 21 with (go_at_call 13; (with_reducible refine (K1.out _ _ (TrA.of HU7.out)).mono ?_); rintro e w6 ⟨rfl, hb⟩; replace HL := Lib.hid (RP.below HL.out hb (Nat.le_refl _)); replace HU := Lib.hid (RN.below HU.out hb (Nat.le_refl _)); replace HU7 := Lib.hid (RN.below HU7.out hb (Nat.le_refl _)); replace R8 := Lib.hid (R8.out.belowS hb); replace R16 := Lib.hid (R16.out.belowS hb); replace HB := Lib.hid (HB.out.trans (hb.mono HB.out.size)); replace R21 := Lib.hid (R21.out.belowS hb); clear hb)
                  clear x0 x1 y0 y1
                  obtain ⟨y0, y1, -, -⟩ := R21.out.c2
                  go_wp2
                  exact ⟨⟨i + 1, by omega, by simp, HL, HU, HU7, R8, R16, HB⟩, by simp [intOf]; omega⟩
                · have hq : ((mkS xk).toList == (mkS key).toList) = false := by rw [mkS_toList, mkS_toList]; exact beq_eq_false_iff_ne.2 hxk
                  rw [HG.out hxk] at K1
                  simp only [Option.isSome_some, Option.getD_some] at K1
                  have hq2 : ((mkS xv).toList == (mkS xv).toList) = true := beq_self_eq_true _
                  clear hxk HG
                  go_upto_region 21 with (go_at_call 13; (with_reducible refine (K1.out _ _ (TrA.of HU7.out)).mono ?_); rintro e w6 ⟨rfl, hb⟩; replace HL := Lib.hid (RP.below HL.out hb (Nat.le_refl _)); replace HU := Lib.hid (RN.below HU.out hb (Nat.le_refl _)); replace HU7 := Lib.hid (RN.below HU7.out hb (Nat.le_refl _)); replace R8 := Lib.hid (R8.out.belowS hb); replace R16 := Lib.hid (R16.out.belowS hb); replace HB := Lib.hid (HB.out.trans (hb.mono HB.out.size)); replace R21 := Lib.hid (R21.out.belowS hb); clear hb)
                  clear x0 x1 y0 y1
                  obtain ⟨y0, y1, -, -⟩ := R21.out.c2
                  go_wp2
                  exact ⟨⟨i + 1, by omega, by simp, HL, HU, HU7, R8, R16, HB⟩, by simp [intOf]; omega⟩
              · have HSTOP := hlt
                clear HNE KG2
                go_upto_region 24 with (fail)
                clear HSTOP hlt
                obtain ⟨x0, x1, -, -⟩ := R16.out.c2
                go_upto_region 25 with (go_at_call 16; (with_reducible refine (KD.out _ _ (TrA.of HU7.out)).mono ?_); rintro e w11 ⟨v11, rfl, ⟨u11, rfl, hu11⟩, hb⟩; have HX := Lib.hid hu11; clear hu11; replace HU := Lib.hid (RN.below HU.out hb (Nat.le_refl _)); replace R8 := Lib.hid (R8.out.belowS hb); replace HB := Lib.hid (HB.out.trans (hb.mono HB.out.size)); clear hb KD; obtain ⟨p11, c11, rfl, -, -⟩ := RowE.shape encN HX.out)
                clear x0 x1 HL HU7 R16
                have HK8 := Lib.hid (show k8 < w11.heap.size from R8.out.lt)
                have HK24 := Lib.hid (show w.heap.size ≤ w11.heap.size from HB.out.size)
                have hb := (Below.refl w11.heap.size w11).alloc (Nat.le_refl _) (.cells #[.slice p11 t.1.length c11, .int .i64 t.2] 37)
                have R24 := Lib.hid (RowAt.new w11 #[.slice p11 t.1.length c11, .int .i64 t.2] 37)
                replace HU := Lib.hid (RN.below HU.out hb (Nat.le_refl _))
                replace HX := Lib.hid (RN.below HX.out hb (Nat.le_refl _))
                replace R8 := Lib.hid (R8.out.belowS hb)
                replace HB := Lib.hid (HB.out.trans (hb.mono HB.out.size))
                clear hb
                generalize w11.alloc (.cells #[.slice p11 t.1.length c11, .int .i64 t.2] 37) = w12 at *
                generalize w11.heap.size = k24 at *
                obtain ⟨x0, x1, -, -⟩ := R24.out.c2
                go_upto_region 26 with (go_at_call 13; (with_reducible refine (KG4.out _ _ (TrA.of HX.out)).mono ?_); rintro e w13 ⟨rfl, hb⟩; replace HU := Lib.hid (RN.below HU.out hb (Nat.le_refl _)); replace HX := Lib.hid (RN.below HX.out hb (Nat.le_refl _)); replace R8 := Lib.hid (R8.out.belowS hb); replace R24 := Lib.hid (R24.out.belowS hb); replace HB := Lib.hid (HB.out.trans (hb.mono HB.out.size)); clear hb KG4)
                clear x0 x1
                obtain ⟨x0, x1, -, -⟩ := R24.out.c2
                obtain ⟨y0, y1, -, -⟩ := R8.out.c2
                have hq : ((mkS val).toList == (mkS val).toList) = true := beq_self_eq_true _
                go_wp2_with (go_at_call 17; (with_reducible refine (rlike_any _ _ _ _ _ _ _ HX.out HU.out).mono ?_); rintro e w16 ⟨rfl, hb⟩; replace HB := Lib.hid (HB.out.trans (hb.mono HB.out.size)); clear hb)
                go_ret
                exact ⟨by rw [HKID.out]; rfl, HB.out⟩

          · have hq : (64 : Int) ≤ (L.length : Int) := by omega
            simp only [Option.isSome_none, Option.getD_none, Bool.false_or, hf, decide_false, Bool.false_eq_true, if_false] at KP KG
            clear hm hg hf HP HMEM HPT HOK HKID
            obtain ⟨x0, x1, -, -⟩ := R8.out.c2
            go_upto_region 13 with (go_at_call 13; (with_reducible refine (KG.out _ _ (TrA.of HU.out)).mono ?_); rintro e w6 ⟨rfl, hb⟩; replace HL := Lib.hid (RP.below HL.out hb (Nat.le_refl _)); replace HU := Lib.hid (RN.below HU.out hb (Nat.le_refl _)); replace R8 := Lib.hid (R8.out.belowS hb); replace HB := Lib.hid (HB.out.trans (hb.mono HB.out.size)); clear hb KG x0 x1)
            obtain ⟨x0, x1, -, -⟩ := R8.out.c2
            go_upto_region 14 with (go_at_call 14; (with_reducible refine (KP.out _ _ (TrA.of HU.out)).mono ?_); rintro e w7 ⟨v7, rfl, ⟨u7, rfl, hu7⟩, hb⟩; have HU7 := Lib.hid hu7; clear hu7; replace HL := Lib.hid (RP.below HL.out hb (Nat.le_refl _)); replace HU := Lib.hid (RN.below HU.out hb (Nat.le_refl _)); replace R8 := Lib.hid (R8.out.belowS hb); replace HB := Lib.hid (HB.out.trans (hb.mono HB.out.size)); clear hb; obtain ⟨p7, c7, rfl, -, -⟩ := RowE.shape encN HU7.out)
            clear x0 x1 KP

            have hb := (Below.refl w7.heap.size w7).alloc (Nat.le_refl _) (.cells #[.slice p7 zT.1.length c7, .int .i64 zT.2] 37)
            have R16 := Lib.hid (RowAt.new w7 #[.slice p7 zT.1.length c7, .int .i64 zT.2] 37)
            replace HL := Lib.hid (RP.below HL.out hb (Nat.le_refl _))
            replace HU := Lib.hid (RN.below HU.out hb (Nat.le_refl _))
            replace HU7 := Lib.hid (RN.below HU7.out hb (Nat.le_refl _))
            replace R8 := Lib.hid (R8.out.belowS hb)
            replace HB := Lib.hid (HB.out.trans (hb.mono HB.out.size))
            clear hb
            generalize w7.alloc (.cells #[.slice p7 zT.1.length c7, .int .i64 zT.2] 37) = w9 at *
            generalize w7.heap.size = k16 at *

            go_wp2_with (go_at_call 15; (with_reducible refine (KM.out _).mono ?_); rintro e w9 ⟨rfl, rfl⟩)
            go_ret
            exact ⟨rfl, HB.out⟩
        | some old =>
          rw [hg] at KG KP
          simp only [Option.isSome_some, Option.getD_some, Bool.true_or, if_true] at KP KG
          have HP2 : Hid (Pairs (putL key val L)) := Lib.hid (HP.out.put hm (.inl (by rw [hg]; rfl)))
          have HDP : Hid (Pairs (delL key L)) := Lib.hid HP.out.del
          have HLT : Hid ((delL key L).length < 64) := Lib.hid (by
            have e0 := delL_has (k := key) HP.out.1 (by rw [hg]; rfl)
            have e3 := congrArg List.length (put_del HP.out.1 hg)
            rw [putL_not HDP.out.1 (getL_del key L)] at e3
            have := idxL_le key (delL key L)
            simp only [List.length_append, List.length_take, List.length_cons, List.length_drop] at e3
            omega)
          have KP3 := Lib.hid (fun v W (h : TrA W v (ofT (delL key L))) => trPut_any (ofT (delL key L)) (ofT_ok HDP.out) key old v W h)
          unfold putR at KP3
          simp only [pairsT_of HDP.out, HP.out.2.1 _ (getL_mem hg), getL_del, HLT.out, put_del HP.out.1 hg, HT.out, if_true, Bool.true_and, Option.isSome_none, Bool.false_or, decide_true] at KP3
          clear HLT HDP
          have HPT2 : Hid (pairsT (ofT (putL key val L)) = (putL key val L, true)) := Lib.hid (pairsT_of HP2.out)
          have HOK2 : Hid (TOk (ofT (putL key val L))) := Lib.hid (ofT_ok HP2.out)
          have KG2 := Lib.hid (fun k v W (h : TrA W v (ofT (putL key val L))) => trGet_any (ofT (putL key val L)) HOK2.out k v W h)
          simp only [HPT2.out, if_true, Bool.true_and] at KG2
          have KG3 := Lib.hid (KG2.out key)
          rw [getL_put] at KG3
          simp only [Option.isSome_some, Option.getD_some] at KG3
          have HNE : Hid (∀ (i : Nat) (x : Pr), L[i]? = some x → x.1 ≠ key → getL x.1 (putL key val L) = some x.2) := Lib.hid (fun i x hx hne => by rw [getL_put_ne hne, HMEM.out i x hx])
          have KD := Lib.hid (fun v W (h : TrA W v (ofT (putL key val L))) => trDel_any (ofT (putL key val L)) HOK2.out key v W h)
          unfold delR at KD
          simp only [HPT2.out, if_true, getL_put, Option.isSome_some, del_put] at KD
          have KG4 := Lib.hid (fun v W (h : TrA W v (ofT (delL key L))) => trGet_any (ofT (delL key L)) (ofT_ok HP.out.del) key v W h)
          simp only [pairsT_of HP.out.del, getL_del, if_true, Bool.true_and, Option.isSome_none, Option.getD_none] at KG4
          generalize ofT (delL key L) = t3 at *
          clear hm hg HP HMEM HPT HOK HPT2 HOK2 HP2 KM 
          generalize putL key val L = L2 at *
          generalize ofT L2 = t2 at *
          obtain ⟨x0, x1, -, -⟩ := R8.out.c2
          go_upto_region 13 with (go_at_call 13; (with_reducible refine (KG.out _ _ (TrA.of HU.out)).mono ?_); rintro e w6 ⟨rfl, hb⟩; replace HL := Lib.hid (RP.below HL.out hb (Nat.le_refl _)); replace HU := Lib.hid (RN.below HU.out hb (Nat.le_refl _)); replace R8 := Lib.hid (R8.out.belowS hb); replace HB := Lib.hid (HB.out.trans (hb.mono HB.out.size)); clear hb KG x0 x1)
          obtain ⟨x0, x1, -, -⟩ := R8.out.c2
          go_upto_region 14 with (go_at_call 14; (with_reducible refine (KP.out _ _ (TrA.of HU.out)).mono ?_); rintro e w7 ⟨v7, rfl, ⟨u7, rfl, hu7⟩, hb⟩; have HU7 := Lib.hid hu7; clear hu7; replace HL := Lib.hid (RP.below HL.out hb (Nat.le_refl _)); replace HU := Lib.hid (RN.below HU.out hb (Nat.le_refl _)); replace R8 := Lib.hid (R8.out.belowS hb); replace HB := Lib.hid (HB.out.trans (hb.mono HB.out.size)); clear hb; obtain ⟨p7, c7, rfl, -, -⟩ := RowE.shape encN HU7.out)
          clear x0 x1 KP
          have hb := (Below.refl w7.heap.size w7).alloc (Nat.le_refl _) (.cells #[.slice p7 t2.1.length c7, .int .i64 t2.2] 37)
          have R16 := Lib.hid (RowAt.new w7 #[.slice p7 t2.1.length c7, .int .i64 t2.2] 37)
          replace HL := Lib.hid (RP.below HL.out hb (Nat.le_refl _))
          replace HU := Lib.hid (RN.below HU.out hb (Nat.le_refl _))
          replace HU7 := Lib.hid (RN.below HU7.out hb (Nat.le_refl _))
          replace R8 := Lib.hid (R8.out.belowS hb)
          replace HB := Lib.hid (HB.out.trans (hb.mono HB.out.size))
          clear hb
          generalize w7.alloc (.cells #[.slice p7 t2.1.length c7, .int .i64 t2.2] 37) = w9 at *
          generalize w7.heap.size = k16 at *
          obtain ⟨z0, z1, -, -⟩ := R16.out.c2
          go_upto_region 18 with (go_at_call 13; (with_reducible refine (KG3.out _ _ (TrA.of HU7.out)).mono ?_); rintro e w10 ⟨rfl, hb⟩; replace HL := Lib.hid (RP.below HL.out hb (Nat.le_refl _)); replace HU := Lib.hid (RN.below HU.out hb (Nat.le_refl _)); replace HU7 := Lib.hid (RN.below HU7.out hb (Nat.le_refl _)); replace R8 := Lib.hid (R8.out.belowS hb); replace R16 := Lib.hid (R16.out.belowS hb); replace HB := Lib.hid (HB.out.trans (hb.mono HB.out.size)); clear hb KG3)
          clear z0 z1
          go_loopw [104] (fun s wr => ∃ i : Nat, i ≤ L.length ∧ s = .int .i64 i ∧ Hid (RP wr (.slice pL L.length cL) L) ∧ Hid (RN wr (.slice pU t.1.length cU) t.1) ∧ Hid (RN wr (.slice p7 t2.1.length c7) t2.1) ∧ Hid (RowAt wr k8 #[.slice pU t.1.length cU, .int .i64 t.2] 37) ∧ Hid (RowAt wr k16 #[.slice p7 t2.1.length c7, .int .i64 t2.2] 37) ∧ Hid (Below w.heap.size w wr)) (fun s _ => L.length - (intOf s).toNat)
          case atStart => exact ⟨0, Nat.zero_le _, rfl, HL, HU, HU7, R8, R16, HB⟩
          case round =>
            clear HL HU HU7 R8 R16 HB
            obtain ⟨i, hin, rfl, hl1, hu1, hu71, hr1, hr16, hb1⟩ := hrel
            have HL := Lib.hid hl1.out
            have HU := Lib.hid hu1.out
            have HU7 := Lib.hid hu71.out
            have R8 := Lib.hid hr1.out
            have R16 := Lib.hid hr16.out
            have HB := Lib.hid hb1.out
            clear hl1 hu1 hu71 hr1 hr16 hb1
            by_cases hlt : i < L.length
            · obtain ⟨x, hx⟩ : ∃ x, L[i]? = some x := ⟨_, List.getElem?_eq_getElem hlt⟩
              have HG := Lib.hid (HNE.out i x hx)
              obtain ⟨a, rfl, c0, c1⟩ := RP.at HL.out hx
              obtain ⟨xk, xv⟩ := x
              simp only at c0 c1
              replace HG : Hid (xk ≠ key → getL xk L2 = some xv) := HG
              have K1 := Lib.hid (KG2.out xk)
              clear hx
              go_upto_region 20 with (fail)
              have hb := (Below.refl wr.heap.size wr).alloc (Nat.le_refl _) (.cells #[.string (mkS xk), .string (mkS xv)] 41)
              have R21 := Lib.hid (RowAt.new wr #[.string (mkS xk), .string (mkS xv)] 41)
              replace HL := Lib.hid (RP.below HL.out hb (Nat.le_refl _))
              replace HU := Lib.hid (RN.below HU.out hb (Nat.le_refl _))
              replace HU7 := Lib.hid (RN.below HU7.out hb (Nat.le_refl _))
              replace R8 := Lib.hid (R8.out.belowS hb)
              replace R16 := Lib.hid (R16.out.belowS hb)
              replace HB := Lib.hid (HB.out.trans (hb.mono HB.out.size))
              clear hb
              generalize wr.alloc (.cells #[.string (mkS xk), .string (mkS xv)] 41) = w5 at *
              generalize wr.heap.size = k21 at *
              clear c0 c1
              obtain ⟨y0, y1, -, -⟩ := R21.out.c2
              obtain ⟨x0, x1, -, -⟩ := R16.out.c2
              by_cases hxk : xk = key
              · have hq : ((mkS xk).toList == (mkS key).toList) = true := by rw [hxk]; exact beq_self_eq_true _
                clear HG hxk
                generalize (getL xk L2).isSome = has2 at *
                generalize (getL xk L2).getD [] = got2 at *
                go_upto_region 21 with (go_at_call 13; (with_reducible refine (K1.out _ _ (TrA.of HU7.out)).mono ?_); rintro e w6 ⟨rfl, hb⟩; replace HL := Lib.hid (RP.below HL.out hb (Nat.le_refl _)); replace HU := Lib.hid (RN.below HU.out hb (Nat.le_refl _)); replace HU7 := Lib.hid (RN.below HU7.out hb (Nat.le_refl _)); replace R8 := Lib.hid (R8.out.belowS hb); replace R16 := Lib.hid (R16.out.belowS hb); replace HB := Lib.hid (HB.out.trans (hb.mono HB.out.size)); replace R21 := Lib.hid (R21.out.belowS hb); clear hb)
                clear x0 x1 y0 y1
                obtain ⟨y0, y1, -, -⟩ := R21.out.c2
                go_wp2
                exact ⟨⟨i + 1, by omega, by simp, HL, HU, HU7, R8, R16, HB⟩, by simp [intOf]; omega⟩
              · have hq : ((mkS xk).toList == (mkS key).toList) = false := by rw [mkS_toList, mkS_toList]; exact beq_eq_false_iff_ne.2 hxk
                rw [HG.out hxk] at K1
                simp only [Option.isSome_some, Option.getD_some] at K1
                have hq2 : ((mkS xv).toList == (mkS xv).toList) = true := beq_self_eq_true _
                clear hxk HG
                go_upto_region 21 with (go_at_call 13; (with_reducible refine (K1.out _ _ (TrA.of HU7.out)).mono ?_); rintro e w6 ⟨rfl, hb⟩; replace HL := Lib.hid (RP.below HL.out hb (Nat.le_refl _)); replace HU := Lib.hid (RN.below HU.out hb (Nat.le_refl _)); replace HU7 := Lib.hid (RN.below HU7.out hb (Nat.le_refl _)); replace R8 := Lib.hid (R8.out.belowS hb); replace R16 := Lib.hid (R16.out.belowS hb); replace HB := Lib.hid (HB.out.trans (hb.mono HB.out.size)); replace R21 := Lib.hid (R21.out.belowS hb); clear hb)
                clear x0 x1 y0 y1
                obtain ⟨y0, y1, -, -⟩ := R21.out.c2
                go_wp2
                exact ⟨⟨i + 1, by omega, by simp, HL, HU, HU7, R8, R16, HB⟩, by simp [intOf]; omega⟩
            · have HSTOP := hlt
              clear HNE KG2
              go_upto_region 24 with (fail)
              clear HSTOP hlt
              obtain ⟨x0, x1, -, -⟩ := R16.out.c2
              go_upto_region 25 with (go_at_call 16; (with_reducible refine (KD.out _ _ (TrA.of HU7.out)).mono ?_); rintro e w11 ⟨v11, rfl, ⟨u11, rfl, hu11⟩, hb⟩; have HX := Lib.hid hu11; clear hu11; replace HU := Lib.hid (RN.below HU.out hb (Nat.le_refl _)); replace R8 := Lib.hid (R8.out.belowS hb); replace HB := Lib.hid (HB.out.trans (hb.mono HB.out.size)); clear hb KD; obtain ⟨p11, c11, rfl, -, -⟩ := RowE.shape encN HX.out)
              clear x0 x1 HL HU7 R16
              have HK8 := Lib.hid (show k8 < w11.heap.size from R8.out.lt)
              have HK24 := Lib.hid (show w.heap.size ≤ w11.heap.size from HB.out.size)
              have hb := (Below.refl w11.heap.size w11).alloc (Nat.le_refl _) (.cells #[.slice p11 t3.1.length c11, .int .i64 t3.2] 37)
              have R24 := Lib.hid (RowAt.new w11 #[.slice p11 t3.1.length c11, .int .i64 t3.2] 37)
              replace HU := Lib.hid (RN.below HU.out hb (Nat.le_refl _))
              replace HX := Lib.hid (RN.below HX.out hb (Nat.le_refl _))
              replace R8 := Lib.hid (R8.out.belowS hb)
              replace HB := Lib.hid (HB.out.trans (hb.mono HB.out.size))
              clear hb
              generalize w11.alloc (.cells #[.slice p11 t3.1.length c11, .int .i64 t3.2] 37) = w12 at *
              generalize w11.heap.size = k24 at *
              obtain ⟨x0, x1, -, -⟩ := R24.out.c2
              go_upto_region 26 with (go_at_call 13; (with_reducible refine (KG4.out _ _ (TrA.of HX.out)).mono ?_); rintro e w13 ⟨rfl, hb⟩; replace HU := Lib.hid (RN.below HU.out hb (Nat.le_refl _)); replace HX := Lib.hid (RN.below HX.out hb (Nat.le_refl _)); replace R8 := Lib.hid (R8.out.belowS hb); replace R24 := Lib.hid (R24.out.belowS hb); replace HB := Lib.hid (HB.out.trans (hb.mono HB.out.size)); clear hb KG4)
              clear x0 x1
              obtain ⟨x0, x1, xf0, xf1⟩ := R24.out.c2
              go_upto_region 27 with (fail)
              go_upto_region 28 with (go_at_call 14; (with_reducible refine (KP3.out _ _ (TrA.of HX.out)).mono ?_); rintro e w14 ⟨v14, rfl, ⟨u14, rfl, hu14⟩, hb⟩; have HY := Lib.hid hu14; clear hu14; replace HU := Lib.hid (RN.below HU.out hb (Nat.le_refl _)); replace R8 := Lib.hid (R8.out.belowS hb); replace R24 := Lib.hid (R24.out.belowS hb); replace HB := Lib.hid (HB.out.trans (hb.mono HB.out.size)); clear hb KP3 x0 x1 xf0 xf1; obtain ⟨p14, c14, rfl, -, -⟩ := RowE.shape encN HY.out; obtain ⟨x0, x1, xf0, xf1⟩ := R24.out.c2)
              clear x0 x1 xf0 xf1
              have HA1 := RN.apart_small HU.out R24.out (by simp)
              have HA2 := RN.apart_small HY.out R24.out (by simp)
              have HU2 := Lib.hid ((HU.out.set HA1 0 (.slice p14 t.1.length c14)).set HA1 1 (.int .i64 t.2))
              have HX := Lib.hid ((HY.out.set HA2 0 (.slice p14 t.1.length c14)).set HA2 1 (.int .i64 t.2))
              have R25 := Lib.hid ((R24.out.set 0 (.slice p14 t.1.length c14) (cs' := #[.slice p14 t.1.length c14, .int .i64 t3.2]) rfl).set 1 (.int .i64 t.2) (cs' := #[.slice p14 t.1.length c14, .int .i64 t.2]) rfl)
              have R9 := Lib.hid ((R8.out.other ⟨k24, 0, none⟩ (.slice p14 t.1.length c14) (Nat.ne_of_lt HK8.out)).other ⟨k24, 1, none⟩ (.int .i64 t.2) (Nat.ne_of_lt HK8.out))
              replace HB := Lib.hid ((HB.out.setCell (p := ⟨k24, 0, none⟩) HK24.out (.slice p14 t.1.length c14)).setCell (p := ⟨k24, 1, none⟩) HK24.out (.int .i64 t.2))
              clear HU R8 R24 HY HA1 HA2
              have HU := Lib.hid HU2.out
              have R8 := Lib.hid R9.out
              have R24 := Lib.hid R25.out
              clear HU2 R9 R25
              generalize (w14.setCell ⟨k24, 0, none⟩ (.slice p14 t.1.length c14)).setCell ⟨k24, 1, none⟩ (.int .i64 t.2) = w15 at *
              obtain ⟨x0, x1, -, -⟩ := R24.out.c2
              obtain ⟨y0, y1, -, -⟩ := R8.out.c2
              have hq : ((mkS val).toList == (mkS val).toList) = true := beq_self_eq_true _
              go_wp2_with (go_at_call 17; (with_reducible refine (rlike_any _ _ _ _ _ _ _ HX.out HU.out).mono ?_); rintro e w16 ⟨rfl, hb⟩; replace HB := Lib.hid (HB.out.trans (hb.mono HB.out.size)); clear hb)
              go_ret
              exact ⟨by rw [HKID.out]; rfl, HB.out⟩

end Go.Proofs.Ytefmlbckbhlgdaa
namespace Go.Proofs.Ytefmlbckbhlgdaa
open Go.RowKit Go.ChangeShapes Go.WideShapes Go.ChangeAt
set_option maxRecDepth 100000
/-- What comes in weighs no more than an address reaches. -/
def Light {H : Type} (t : TypeId) (d : DataW H) : Prop := ∀ n ∈ d.weights Try.prog t, n ≤ reachBytes
theorem small_cons {H : Type} {t : TypeId} {ts : List TypeId} {d : DataW H} {r : List (DataW H)} (h : (DataW.weightsEach Try.prog (t :: ts) (d :: r)).all (· ≤ reachBytes) = true) : Light t d ∧ (DataW.weightsEach Try.prog ts r).all (· ≤ reachBytes) = true := by
  rw [DataW.weightsEach, List.all_append, Bool.and_eq_true] at h
  exact ⟨fun n hn => of_decide_eq_true (List.all_eq_true.1 h.1 n hn), h.2⟩
theorem light_string {H : Type} {t : TypeId} {s : ByteArray} (h : Light (H := H) t (.lit (.string s.data.toList))) : s.size ≤ 140737488351232 := by
  have := h s.data.toList.length (by simp [DataW.weights])
  have e : s.data.toList.length = s.size := rfl
  rw [e] at this
  exact this
theorem light_two {H : Type} {t : TypeId} {fs : Array Field} {a b : TypeId} {x y : DataW H} (ht : Try.prog.underlying t = some (.struct fs)) (hf : fs.toList.map (·.type) = [a, b]) (h : Light t (.agg [x, y])) : Light a x ∧ Light b y := by
  unfold Light at h
  rw [DataW.weights, ht] at h
  simp only [hf, DataW.weightsEach, List.append_nil, List.mem_append] at h
  exact ⟨fun n hn => h n (.inl hn), fun n hn => h n (.inr hn)⟩
theorem light_all {H : Type} {e : TypeId} : ∀ {l : List (DataW H)}, (∀ n ∈ DataW.weightsAll Try.prog e l, n ≤ reachBytes) → ∀ d ∈ l, Light e d
  | [], _, d, hd => by cases hd
  | x :: l, h, d, hd => by
    rw [DataW.weightsAll] at h
    rcases List.mem_cons.1 hd with rfl | hd
    · exact fun n hn => h n (List.mem_append_left _ hn)
    · exact light_all (fun n hn => h n (List.mem_append_right _ hn)) d hd
theorem light_slice {H : Type} {t e : TypeId} {l s : List (DataW H)} (ht : Try.prog.underlying t = some (.slice e)) (h : Light t (.slice l s)) : (l.length + s.length) * Try.prog.bytesOf e ≤ reachBytes ∧ ∀ d ∈ l, Light e d := by
  unfold Light at h
  rw [DataW.weights, ht] at h
  simp only [List.mem_cons, List.mem_append] at h
  exact ⟨h _ (.inl rfl), light_all fun n hn => h n (.inr (.inl hn))⟩

theorem cAct : Try.prog.cellsOf 76 = 2 := by kernel_rfl
theorem cNd : Try.prog.cellsOf 88 = 19 := by kernel_rfl
theorem bNd : Try.prog.bytesOf 88 = 168 := by kernel_rfl
theorem cStr : Try.prog.cellsOf 9 = 1 := by kernel_rfl
theorem cInt : Try.prog.cellsOf 3 = 1 := by kernel_rfl
theorem cKid : Try.prog.cellsOf 86 = 16 := by kernel_rfl
theorem cNds : Try.prog.cellsOf 35 = 1 := by kernel_rfl
theorem cTri : Try.prog.cellsOf 37 = 2 := by kernel_rfl

theorem row_of_cellsT {α : Type} {E : Enc α} {w : World} {a : Addr} {len cap : Nat} {q : Nat → α} (h1 : len ≤ cap) (h2 : cap ≤ maxLen) (h : ∀ i, i < len → ∀ r u, (E.cells (q i))[r]? = some u → w.cell? (a.add (i * E.k + r)) = some u) :
    RowE E w (.slice (some a) len cap) ((List.range len).map q) := by
  refine .inr ⟨a, cap, by simp, by simpa using h1, h2, fun j u hj => ?_⟩
  have hlt : j < ((List.range len).map q).length * E.k := by
    rw [← flat_length]; exact (List.getElem?_eq_some_iff.1 hj).1
  rw [List.length_map, List.length_range] at hlt
  have hk := E.pos
  have hi : j / E.k < len := (Nat.div_lt_iff_lt_mul hk).2 hlt
  have hr : j % E.k < E.k := Nat.mod_lt _ hk
  have e : j = j / E.k * E.k + j % E.k := by rw [Nat.mul_comm]; exact (Nat.div_add_mod j E.k).symm
  have hget : ((List.range len).map q)[j / E.k]? = some (q (j / E.k)) := by simp [hi]
  have := flat_get E hget (j % E.k) hr
  rw [← e, hj] at this
  have h3 := h _ hi _ _ this.symm
  rwa [← e] at h3

def ActOk (a : Pr) : Prop := a.1.length ≤ 140737488351232 ∧ a.2.length ≤ 140737488351232
theorem act_trod {H : Type} {enc : TypeId × Value → H} {w : World} {fuel : Nat} {cs : List Value} {x : DataW H × List MemPlace} (hlen : cs.length = 2) (h : DataW.trod enc Try.prog w 0 (fun _ => true) true fuel 76 cs = some x) (hw : Light 76 x.1) :
    ∃ b : Pr, cs = encP.cells b ∧ ActOk b := by
  match cs, hlen with
  | [c0, c1], _ =>
    obtain ⟨y0, y1, n, rfl, _, g0, g1⟩ := trod_struct2 Try.underlying76 h
    replace g0 : DataW.trod enc Try.prog w 0 (fun _ => true) true n 9 (([c0, c1].drop 0).take (Try.prog.cellsOf 9)) = some y0 := g0
    replace g1 : DataW.trod enc Try.prog w 0 (fun _ => true) true n 9 (([c0, c1].drop 1).take (Try.prog.cellsOf 9)) = some y1 := g1
    rw [cStr] at g0 g1
    obtain ⟨hw0, hw1⟩ := light_two Try.underlying76 (a := 9) (b := 9) rfl hw
    obtain ⟨a, e0, rfl, _⟩ := DataW.trod_string Try.underlying9 (cs := [c0]) g0
    obtain ⟨b, e1, rfl, _⟩ := DataW.trod_string Try.underlying9 (cs := [c1]) g1
    have z0 := light_string hw0
    have z1 := light_string hw1
    rw [← bl_length] at z0 z1
    simp at e0 e1
    subst e0 e1
    exact ⟨(bl a, bl b), rfl, z0, z1⟩
theorem acts_trod {H : Type} {enc : TypeId × Value → H} {w : World} {fuel : Nat} {cs : List Value} {x : DataW H × List MemPlace} (h : DataW.trod enc Try.prog w 0 (fun _ => true) true fuel 33 cs = some x) (hw : Light 33 x.1) :
    ∃ v l, cs = [v] ∧ RP w v l ∧ ∀ a ∈ l, ActOk a := by
  rcases Go.Deep.open_slice Try.underlying33 h with ⟨rfl, _⟩ | ⟨a, len, cap, m, n, D, Pl, rfl, _, hl, hm, hmm, rfl, hx⟩
  · exact ⟨_, [], rfl, .inl ⟨rfl, rfl⟩, fun _ h => by cases h⟩
  · rw [cAct] at hx
    have hw2 := (light_slice Try.underlying33 hw).2
    obtain ⟨q, hq⟩ := Go.Deep.choose_lt (α := Pr) (n := len) (p := fun i b => (∀ r u, (encP.cells b)[r]? = some u → w.cell? (a.add (i * 2 + r)) = some u) ∧ ActOk b) (fun i hi => by
      obtain ⟨cs', h1, h2⟩ := hx i (by simp at hmm; omega)
      obtain ⟨_, hlen, hcell⟩ := World.cells?_some h1
      obtain ⟨b, rfl, ho⟩ := act_trod hlen h2 (hw2 _ (List.mem_map.2 ⟨i, List.mem_range.2 hi, rfl⟩))
      refine ⟨b, fun r u hr => ?_, ho⟩
      have hr3 : r < 2 := by have := (List.getElem?_eq_some_iff.1 hr).1; simpa [encP] using this
      have := hcell r hr3
      rw [Go.Deep.add_add] at this
      rw [this]
      exact hr)
    refine ⟨_, _, rfl, row_of_cellsT (E := encP) hl hm (fun i hi => (hq i hi).1), fun s hs => ?_⟩
    obtain ⟨i, hi, rfl⟩ := List.mem_map.1 hs
    exact (hq i (List.mem_range.1 hi)).2
def ActsRep (w : World) (v : Value) (l : List Pr) : Prop := RP w v l ∧ ∀ a ∈ l, a.1.length ≤ 140737488351232 ∧ a.2.length ≤ 140737488351232
theorem acts_open {H : Type} {enc : TypeId × Value → H} {w : World} {base : Nat} {v : Value} {d : DataW H} {p : List MemPlace} (hv : Value.okWide Try.prog w .any base 33 v) (h : DataW.Trod enc Try.prog w 0 (fun _ => true) true 33 v d p) (hw : Light 33 d) : ∃ x, ActsRep w v x := by
  obtain ⟨a0, len, cap, rfl⟩ := okWide_slice Try.underlying33 hv
  obtain ⟨fuel, hf⟩ := h
  obtain ⟨u, l, e, hl⟩ := acts_trod hf hw
  simp [Value.cells] at e
  subst e
  exact ⟨l, hl⟩

theorem light_four {H : Type} {t : TypeId} {fs : Array Field} {a b c d : TypeId} {x y z u : DataW H} (ht : Try.prog.underlying t = some (.struct fs)) (hf : fs.toList.map (·.type) = [a, b, c, d]) (h : Light t (.agg [x, y, z, u])) : Light b y := by
  unfold Light at h
  rw [DataW.weights, ht] at h
  simp only [hf, DataW.weightsEach, List.append_nil, List.mem_append] at h
  exact fun n hn => h n (.inr (.inl hn))
instance : Inhabited Nd := ⟨⟨0, [], [], []⟩⟩
def NdOk (n : Nd) : Prop := n.kids.length = 16 ∧ n.part.length ≤ 140737488351232
theorem nd_trod {H : Type} {enc : TypeId × Value → H} {w : World} {fuel : Nat} {cs : List Value} {x : DataW H × List MemPlace} (hlen : cs.length = 19) (h : DataW.trod enc Try.prog w 0 (fun _ => true) true fuel 88 cs = some x) (hw : Light 88 x.1) :
    ∃ b : Nd, cs = encN.cells b ∧ NdOk b := by
  match cs, hlen with
  | [c0, c1, c2, c3, c4, c5, c6, c7, c8, c9, c10, c11, c12, c13, c14, c15, c16, c17, c18], _ =>
    obtain ⟨xs, n, _, rfl, _, hl, hg⟩ := DataW.trod_struct Try.underlying88 h
    match xs, hl with
    | [y0, y1, y2, y3], _ =>
      have g0 : DataW.trod enc Try.prog w 0 (fun _ => true) true n 3 (([c0, c1, c2, c3, c4, c5, c6, c7, c8, c9, c10, c11, c12, c13, c14, c15, c16, c17, c18].drop 0).take (Try.prog.cellsOf 3)) = some y0 := hg 0 _ rfl
      have g1 : DataW.trod enc Try.prog w 0 (fun _ => true) true n 9 (([c0, c1, c2, c3, c4, c5, c6, c7, c8, c9, c10, c11, c12, c13, c14, c15, c16, c17, c18].drop 1).take (Try.prog.cellsOf 9)) = some y1 := hg 1 _ rfl
      have g2 : DataW.trod enc Try.prog w 0 (fun _ => true) true n 9 (([c0, c1, c2, c3, c4, c5, c6, c7, c8, c9, c10, c11, c12, c13, c14, c15, c16, c17, c18].drop 2).take (Try.prog.cellsOf 9)) = some y2 := hg 2 _ rfl
      have g3 : DataW.trod enc Try.prog w 0 (fun _ => true) true n 86 (([c0, c1, c2, c3, c4, c5, c6, c7, c8, c9, c10, c11, c12, c13, c14, c15, c16, c17, c18].drop 3).take (Try.prog.cellsOf 86)) = some y3 := hg 3 _ rfl
      rw [cInt] at g0
      rw [cStr] at g1 g2
      rw [cKid] at g3
      replace g3 : DataW.trod enc Try.prog w 0 (fun _ => true) true n 86 [c3, c4, c5, c6, c7, c8, c9, c10, c11, c12, c13, c14, c15, c16, c17, c18] = some y3 := g3
      have hw1 := light_four Try.underlying88 (a := 3) (b := 9) (c := 9) (d := 86) rfl hw
      obtain ⟨k, e0, _, _⟩ := DataW.trod_int Try.underlying3 (cs := [c0]) g0
      obtain ⟨a, e1, rfl, _⟩ := DataW.trod_string Try.underlying9 (cs := [c1]) g1
      obtain ⟨b, e2, _, _⟩ := DataW.trod_string Try.underlying9 (cs := [c2]) g2
      obtain ⟨zs, m, _, _, _, hlz, hz⟩ := DataW.trod_array Try.underlying86 g3
      have hk : ∀ i, i < 16 → ∃ z, ([c3, c4, c5, c6, c7, c8, c9, c10, c11, c12, c13, c14, c15, c16, c17, c18].drop (i * 1)).take 1 = [.int .i64 z] := fun i hi => by
        have h5 := hz i hi
        rw [cInt, List.getElem?_eq_getElem (by omega)] at h5
        obtain ⟨z, e, _⟩ := DataW.trod_int Try.underlying3 h5
        exact ⟨z, e⟩
      obtain ⟨z0, f0⟩ := hk 0 (by decide)
      obtain ⟨z1, f1⟩ := hk 1 (by decide)
      obtain ⟨z2, f2⟩ := hk 2 (by decide)
      obtain ⟨z3, f3⟩ := hk 3 (by decide)
      obtain ⟨z4, f4⟩ := hk 4 (by decide)
      obtain ⟨z5, f5⟩ := hk 5 (by decide)
      obtain ⟨z6, f6⟩ := hk 6 (by decide)
      obtain ⟨z7, f7⟩ := hk 7 (by decide)
      obtain ⟨z8, f8⟩ := hk 8 (by decide)
      obtain ⟨z9, f9⟩ := hk 9 (by decide)
      obtain ⟨z10, f10⟩ := hk 10 (by decide)
      obtain ⟨z11, f11⟩ := hk 11 (by decide)
      obtain ⟨z12, f12⟩ := hk 12 (by decide)
      obtain ⟨z13, f13⟩ := hk 13 (by decide)
      obtain ⟨z14, f14⟩ := hk 14 (by decide)
      obtain ⟨z15, f15⟩ := hk 15 (by decide)
      have z := light_string hw1
      rw [← bl_length] at z
      simp at e0 e1 e2 f0 f1 f2 f3 f4 f5 f6 f7 f8 f9 f10 f11 f12 f13 f14 f15
      subst e0 e1 e2 f0 f1 f2 f3 f4 f5 f6 f7 f8 f9 f10 f11 f12 f13 f14 f15
      exact ⟨⟨k, bl a, bl b, [z0, z1, z2, z3, z4, z5, z6, z7, z8, z9, z10, z11, z12, z13, z14, z15]⟩, rfl, rfl, z⟩
theorem nds_trod {H : Type} {enc : TypeId × Value → H} {w : World} {fuel : Nat} {cs : List Value} {x : DataW H × List MemPlace} (h : DataW.trod enc Try.prog w 0 (fun _ => true) true fuel 35 cs = some x) (hw : Light 35 x.1) :
    ∃ v l, cs = [v] ∧ RN w v l ∧ NsOk l := by
  rcases Go.Deep.open_slice Try.underlying35 h with ⟨rfl, _⟩ | ⟨a, len, cap, m, n, D, Pl, rfl, _, hl, hm, hmm, rfl, hx⟩
  · exact ⟨_, [], rfl, .inl ⟨rfl, rfl⟩, ⟨fun _ h => (nomatch h), fun _ h => (nomatch h), Nat.zero_le _⟩⟩
  · rw [cNd] at hx
    obtain ⟨hw1, hw2⟩ := light_slice Try.underlying35 hw
    rw [bNd, List.length_map, List.length_range] at hw1
    obtain ⟨q, hq⟩ := Go.Deep.choose_lt (α := Nd) (n := len) (p := fun i b => (∀ r u, (encN.cells b)[r]? = some u → w.cell? (a.add (i * 19 + r)) = some u) ∧ NdOk b) (fun i hi => by
      obtain ⟨cs', h1, h2⟩ := hx i (by simp at hmm; omega)
      obtain ⟨_, hlen, hcell⟩ := World.cells?_some h1
      obtain ⟨b, rfl, ho⟩ := nd_trod hlen h2 (hw2 _ (List.mem_map.2 ⟨i, List.mem_range.2 hi, rfl⟩))
      refine ⟨b, fun r u hr => ?_, ho⟩
      have hr3 : r < 19 := by have := (List.getElem?_eq_some_iff.1 hr).1; simpa [encN, ndc] using this
      have := hcell r hr3
      rw [Go.Deep.add_add] at this
      rw [this]
      exact hr)
    have hall : ∀ s ∈ (List.range len).map q, NdOk s := fun s hs => by
      obtain ⟨i, hi, rfl⟩ := List.mem_map.1 hs
      exact (hq i (List.mem_range.1 hi)).2
    refine ⟨_, _, rfl, row_of_cellsT (E := encN) hl hm (fun i hi => (hq i hi).1), ⟨fun s hs => (hall s hs).1, fun s hs => (hall s hs).2, ?_⟩⟩
    unfold reachBytes at hw1
    rw [List.length_map, List.length_range]
    omega
def TrieRep (w : World) (v : Value) (t : List Nd × Int) : Prop := TrA w v t ∧ TOk t
theorem trie_open {H : Type} {enc : TypeId × Value → H} {w : World} {base : Nat} {v : Value} {d : DataW H} {p : List MemPlace} (hv : Value.okWide Try.prog w .any base 37 v) (h : DataW.Trod enc Try.prog w 0 (fun _ => true) true 37 v d p) (hw : Light 37 d) : ∃ x, TrieRep w v x := by
  obtain ⟨cs, rfl, hsz⟩ := okWide_struct Try.underlying37 hv
  obtain ⟨fuel, hf⟩ := h
  obtain ⟨l⟩ := cs
  match l, hsz.trans cTri with
  | [c0, c1], _ =>
    obtain ⟨y0, y1, n, e, _, g0, g1⟩ := trod_struct2 Try.underlying37 hf
    obtain ⟨rfl, -⟩ := Prod.mk.inj e
    replace g0 : DataW.trod enc Try.prog w 0 (fun _ => true) true n 35 (([c0, c1].drop 0).take (Try.prog.cellsOf 35)) = some y0 := g0
    replace g1 : DataW.trod enc Try.prog w 0 (fun _ => true) true n 3 (([c0, c1].drop 1).take (Try.prog.cellsOf 3)) = some y1 := g1
    rw [cNds] at g0
    rw [cInt] at g1
    obtain ⟨hw0, hw1⟩ := light_two Try.underlying37 (a := 35) (b := 3) rfl hw
    obtain ⟨u, ns, e0, hr, ho⟩ := nds_trod (cs := [c0]) g0 hw0
    obtain ⟨r, e1, _, wr⟩ := DataW.trod_int Try.underlying3 (cs := [c1]) g1
    have b := i64_bd wr
    simp at e0 e1
    subst e0 e1
    exact ⟨(ns, r), ⟨_, rfl, hr⟩, ho, b.2⟩
end Go.Proofs.Ytefmlbckbhlgdaa
namespace Go.Proofs.Ytefmlbckbhlgdaa
open Go.ChangeShapes Go.WideShapes Go.ChangeAt Go.RowKit
open Go.ChangeMaps (open_string)
set_option maxRecDepth 100000 in
theorem trieGets_calls (H : Type) (enc : TypeId × Value → H) (W : World) (args : Array Value) (ds : List (DataW H)) (p : List MemPlace)
    (T : Told enc Try.prog Try.f4.params.toList W args.toList ds p) :
    Calls Try.prog 4 args W fun e W' => e = .returned (.bool true) ∧ Below W.heap.size W W' := by
  obtain ⟨hA, ⟨base, hval⟩, hlt, hsmall⟩ := T
  rw [Try.params4] at hA hval hsmall
  obtain ⟨v0, vs0, d0, ds0, p0, q0, hargs, rfl, rfl, h0, r0⟩ := trodAll_cons hA
  obtain ⟨v1, vs1, d1, ds1, p1, q1, rfl, rfl, rfl, h1, r1⟩ := trodAll_cons r0
  obtain ⟨v2, vs2, d2, ds2, p2, q2, rfl, rfl, rfl, h2, r2⟩ := trodAll_cons r1
  obtain ⟨rfl, rfl, rfl⟩ := trodAll_nil r2
  rw [hargs] at hval
  obtain rfl : args = #[v0, v1, v2] := by cases args; simp_all
  obtain ⟨hw0, hs0⟩ := small_cons hsmall
  obtain ⟨hw1, hs1⟩ := small_cons hs0
  obtain ⟨hw2, hs2⟩ := small_cons hs1
  obtain ⟨a0, w0⟩ : ∃ x, ActsRep W v0 x := acts_open (hval 0 33 v0 rfl rfl) h0 hw0
  obtain ⟨a1, rfl, rfl, rfl, -⟩ := open_string Try.underlying9 (hval 1 9 v1 rfl rfl) h1
  obtain ⟨a2, rfl, rfl, rfl, -⟩ := open_string Try.underlying9 (hval 2 9 v2 rfl rfl) h2
  exact trieGets_walk W v0 a0 w0 a1 (light_string hw1) a2 (light_string hw2)

set_option maxRecDepth 100000 in
theorem trieGets_lifted (os : Os) (started : os.Started) (H : Type) (enc : TypeId × Value → H) :
    ReturnsInHanded {} Try.checked os 4 .any (Rows.trieGetsSpec.pre6 enc Try.prog Try.f4 Rows.trieGetsRow.domain false) (Rows.trieGetsSpec.post enc Try.prog Try.f4 false true false false) :=
  law_lifted (C := Try.checked) os started Try.own (by kernel_rfl) Try.func4
    (ChangeSpec.witness6 (enc := enc) (C := Try.checked) false ⟨#[], #[.slice none 0 0, .string ⟨#[]⟩, .string ⟨#[]⟩], []⟩ 20 (by kernel_rfl) (by kernel_rfl) (by kernel_rfl) (by kernel_rfl))
    Try.laidOut (by kernel_rfl) rfl Try.underlying4 rfl
    (fun ds h => by match ds, h with | [_, _, _], _ => rfl)
    (fun W args ds p T => trieGets_calls H enc W args ds p T)

/-- For every input the law returns true. -/
theorem trieGets_holds : Rows.TrieGetsSaid :=
  OpenClaim.holds_of_wide 4 Try.f4 rfl rfl rfl rfl rfl rfl rfl ⟨rfl, rfl, rfl, rfl, rfl⟩ rfl rfl rfl rfl rfl (by kernel_rfl) Try.func4 (by kernel_rfl)
    (of_decide_eq_true (by kernel_rfl)) (by unfold Func.isWrapper; first | (rw [if_pos (by decide +kernel)]; kernel_rfl) | (rw [if_neg (by decide +kernel)]; exact ⟨rfl, rfl⟩))
    (fun os started H enc _ => trieGets_lifted os started H enc)
#print axioms trieGets_holds
end Go.Proofs.Ytefmlbckbhlgdaa

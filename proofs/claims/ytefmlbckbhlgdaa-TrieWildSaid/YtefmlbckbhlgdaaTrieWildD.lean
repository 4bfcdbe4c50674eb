/- TrieWild, walked. TrieWild: for every input the law returns true, and each argument reads as it did. No condition. -/
import Derived.Test.YtefmlbckbhlgdaaTg16
import Derived.Test.YtefmlbckbhlgdaaTrieGetsD
namespace Go.Proofs.Ytefmlbckbhlgdaa
open Go.RowKit Go.Shelf
set_option maxRecDepth 100000
set_option maxHeartbeats 16000000 in
theorem trieWild_walk (w : World) (v : Value) (t : List Nd × Int) (h : TrA w v t ∧ TOk t) (ks : ByteArray) (hks : ks.size ≤ 140737488351232) (vs : ByteArray) (hvs : vs.size ≤ 140737488351232) :
    Calls Try.prog 6 #[v, .string ks, .string vs] w fun e w' => e = .returned (.bool true) ∧ Below w.heap.size w w' := by
  have KA := Lib.hid trAlive_any
  obtain ⟨⟨u, rfl, hu⟩, hok⟩ := h
  obtain ⟨pU, cU, rfl, zU1, zU2⟩ := RowE.shape encN hu
  have hb := (Below.refl w.heap.size w).alloc (Nat.le_refl _) (.cells #[.slice pU t.1.length cU, .int .i64 t.2] 37)
  have R3 := Lib.hid (RowAt.new w #[.slice pU t.1.length cU, .int .i64 t.2] 37)
  have HU := Lib.hid (RN.below hu hb (Nat.le_refl _))
  have HB := Lib.hid hb
  have HOK := Lib.hid hok
  rw [← mk_bl ks, ← mk_bl vs]
  rw [← bl_length] at hks hvs
  generalize bl ks = ak at *
  generalize bl vs = av at *
  clear hu hb hok
  by_cases hbig : 200 < t.1.length
  · obtain ⟨x0, x1, -, -⟩ := R3.out.c2
    go_enter Try.func6, Try.ntmps6
    go_wp2_with (go_at_call 12; (with_reducible refine (KA.out _).mono ?_); rintro e w4 ⟨rfl, hb⟩; replace HB := Lib.hid (HB.out.trans (hb.mono HB.out.size)); clear hb)
    go_ret
    exact ⟨rfl, HB.out⟩
  · have KPS := Lib.hid (fun v W (h : TrA W v t) => trPairs_any t HOK.out v W h)
    have KR := Lib.hid (fun v W (h : TrA W v t) => trRight_any t HOK.out v W h)
    have KGT := Lib.hid (fun k v W (h : TrA W v t) => trGet_any t HOK.out k v W h)
    have KPT := Lib.hid (fun k val v W (h : TrA W v t) => trPut_any t HOK.out k val v W h)
    have KDT := Lib.hid (fun k v W (h : TrA W v t) => trDel_any t HOK.out k v W h)
    have KRT := Lib.hid (fun v W (h : TrA W v t) => trRoot_no t HOK.out v W h)
    have HTR := Lib.hid (pairsT_true HOK.out.ns.kids)
    have HKID := Lib.hid HOK.out.ns.kids
    unfold putR at KPT
    unfold delR at KDT
    generalize pairsT t = x at *
    obtain ⟨l, b⟩ := x
    simp only at KPS KR KGT KPT KDT KRT HTR
    clear HOK
    obtain ⟨km, hkm⟩ : ∃ m, min ak.length 40 = m := ⟨_, rfl⟩
    obtain ⟨vm, hvm⟩ : ∃ m, min av.length 600 = m := ⟨_, rfl⟩
    have e1 := extract_min ak 40 km hkm.symm
    have e2 := extract_min av 600 vm hvm.symm
    have z3 := mk_size ak
    have z4 := mk_size av
    have q1 : min (ak.length : Int) 40 = km := by omega
    have q2 : min (av.length : Int) 600 = vm := by omega
    have b1 : (km : Int) ≤ ak.length := by omega
    have b2 : (vm : Int) ≤ av.length := by omega
    have b3 : km ≤ ak.length := by omega
    have b4 : vm ≤ av.length := by omega
    generalize ak.take 40 = key at *
    generalize av.take 600 = val at *
    obtain ⟨x0, x1, -, -⟩ := R3.out.c2
    go_enter Try.func6, Try.ntmps6
    go_upto_region 3 with (fail)
    clear x0 x1
    generalize w.alloc (.cells #[.slice pU t.1.length cU, .int .i64 t.2] 37) = w3 at *
    clear hkm hvm hbig
    (refine region_tail 11 mix ?hB ?_; case hB => kernel_rfl); (simp only [List.take_succ_cons, List.take_zero, List.drop_succ_cons, List.drop_zero]; (iterate 11 (with_reducible refine wpStill_step ?_; intro K hK; go_simp; with_reducible refine hK _ ?_; clear hK K)); with_reducible refine wpStill_nil ?_)
    replace HU := Lib.hid (RN.below HU.out (Below.refl w3.heap.size w3).drew (Nat.le_refl _))
    replace R3 := Lib.hid R3.out.drew
    replace HB := Lib.hid HB.out.drew
    clear e1 e2 z3 z4 q1 q2 b1 b2 b3 b4
    generalize w3.drew = w4 at *
    cases b with
    | true =>
      clear KGT KPT KDT KRT
      simp only [if_true] at KPS
      obtain ⟨hp, ht⟩ := HTR.out rfl
      have HLK : Hid (likeT t.1 t.2 (ofT l).1 (ofT l).2 = true) := Lib.hid ((likeT_iff HKID.out (ofT_kids l)).2 ht)
      have KO := Lib.hid (fun v W (h : RP W v l) => rOf_any l v W h (by have := hp.2.2; omega) (fun p hm => by have := (mayP_len (hp.2.1 p hm)).2.1; omega))
      have hl64 := hp.2.2
      have hq : decide ((l.length : Int) ≤ 64) = true := decide_eq_true (by omega)
      clear HTR HKID hp ht
      generalize ofT l = t2 at *
      obtain ⟨x0, x1, -, -⟩ := R3.out.c2
      go_upto_region 5 with (go_at_call 20; (with_reducible refine (KPS.out _ _ (TrA.of HU.out)).mono ?_); rintro e w5 ⟨⟨v5, rfl, hl5⟩, hb⟩; have HL := Lib.hid (show RP w5 v5 l from hl5); clear hl5; replace HU := Lib.hid (RN.below HU.out hb (Nat.le_refl _)); replace R3 := Lib.hid (R3.out.belowS hb); replace HB := Lib.hid (HB.out.trans (hb.mono HB.out.size)); clear hb KPS; obtain ⟨p5, c5, rfl, -, -⟩ := RowE.shape encP HL.out)
      clear x0 x1
      obtain ⟨x0, x1, -, -⟩ := R3.out.c2
      go_upto_region 7 with (go_at_call 19; (with_reducible refine (KR.out _ _ (TrA.of HU.out)).mono ?_); rintro e w6 ⟨rfl, hb⟩; replace HL := Lib.hid (RP.below HL.out hb (Nat.le_refl _)); replace HU := Lib.hid (RN.below HU.out hb (Nat.le_refl _)); replace R3 := Lib.hid (R3.out.belowS hb); replace HB := Lib.hid (HB.out.trans (hb.mono HB.out.size)); clear hb KR)
      clear x0 x1
      have x0 := (R3.out.drew.ic2).1
      have x1 := (R3.out.drew.ic2).2
      (refine region_items [(true, 0), (false, 1), (false, 2), (false, 3), (false, 4), (false, 5), (false, 6), (false, 7), (false, 8), (false, 9), (false, 10), (false, 11), (false, 12), (true, 13), (true, 14)] 15 (LaterC w6.drew) mix ?hB ?hC ?_; case hB => kernel_rfl); (case hC => (exact Below.refl _ _)); ((with_reducible refine xi_eff ?_); (refine ⟨_, rfl, ?_⟩); intro K hK; unfold EX; go_simp; (go_at_call 12; (with_reducible refine (KA.out _).mono ?_); rintro e w7 ⟨rfl, hb7⟩; refine ⟨_, rfl, hb7, hK _ _ ?_⟩; clear hK K)); ((with_reducible refine xi_read ?_); (refine ⟨_, rfl, ?_⟩); intro K hK; go_simp; (with_reducible refine hK _ ?_); clear hK K); ((with_reducible refine xi_read ?_); (refine ⟨_, rfl, ?_⟩); intro K hK; go_simp; (with_reducible refine hK _ ?_); clear hK K); ((with_reducible refine xi_read ?_); (refine ⟨_, rfl, ?_⟩); intro K hK; go_simp; (with_reducible refine hK _ ?_); clear hK K); ((with_reducible refine xi_read ?_); (refine ⟨_, rfl, ?_⟩); intro K hK; go_simp; (with_reducible refine hK _ ?_); clear hK K); ((with_reducible refine xi_read ?_); (refine ⟨_, rfl, ?_⟩); intro K hK; go_simp; (with_reducible refine hK _ ?_); clear hK K); ((with_reducible refine xi_read ?_); (refine ⟨_, rfl, ?_⟩); intro K hK; go_simp; (with_reducible refine hK _ ?_); clear hK K); ((with_reducible refine xi_read ?_); (refine ⟨_, rfl, ?_⟩); intro K hK; go_simp; (with_reducible refine hK _ ?_); clear hK K); ((with_reducible refine xi_read ?_); (refine ⟨_, rfl, ?_⟩); intro K hK; go_simp; (with_reducible refine hK _ ?_); clear hK K); ((with_reducible refine xi_read ?_); (refine ⟨_, rfl, ?_⟩); intro K hK; go_simp; (with_reducible refine hK _ ?_); clear hK K); ((with_reducible refine xi_read ?_); (refine ⟨_, rfl, ?_⟩); intro K hK; go_simp; (with_reducible refine hK _ ?_); clear hK K); ((with_reducible refine xi_read ?_); (refine ⟨_, rfl, ?_⟩); intro K hK; go_simp; (with_reducible refine hK _ ?_); clear hK K); ((with_reducible refine xi_read ?_); (refine ⟨_, rfl, ?_⟩); intro K hK; go_simp; (with_reducible refine hK _ ?_); clear hK K); ((with_reducible refine xi_eff ?_); (refine ⟨_, rfl, ?_⟩); intro K hK; unfold EX; go_simp; (go_at_call 18; (with_reducible refine (KO.out _ _ (RP.below (RP.below HL.out (Below.refl w6.heap.size w6).drew (Nat.le_refl _)) hb7 (Nat.le_refl _))).mono ?_); rintro e w8 ⟨u8, rfl, hr8, hb8⟩; have HB8 := hb7.trans (hb8.mono hb7.size); refine ⟨_, rfl, HB8, hK _ _ ?_⟩; clear hK K)); ((with_reducible refine xi_eff ?_); (refine ⟨_, rfl, ?_⟩); intro K hK; unfold EX; go_simp; (go_at_call 17; (with_reducible refine (rlike_any _ _ _ _ _ _ _ (RN.below (RN.below HU.out (Below.refl w6.heap.size w6).drew (Nat.le_refl _)) HB8 (Nat.le_refl _)) hr8).mono ?_); rintro e w9 ⟨rfl, hb9⟩; have HB9 := HB8.trans (hb9.mono HB8.size); refine ⟨_, rfl, HB9, hK _ _ ?_⟩; clear hK K)); (with_reducible refine xi_nil ?_); (simp only [List.drop_succ_cons, List.drop_zero])
      have HBD := (Below.refl w6.heap.size w6).drew
      have HBE := HBD.trans (HB9.mono HBD.size)
      have HBF := Lib.hid (HB.out.trans (HBE.mono HB.out.size))
      clear x0 x1
      rw [HLK.out]
      go_wp2
      go_ret
      exact ⟨rfl, HBF.out⟩
    | false =>
      clear HTR HKID
      simp only [Bool.false_eq_true, if_false, Bool.false_and] at KPS KGT KPT KDT
      replace KGT := Lib.hid (KGT.out key)
      replace KPT := Lib.hid (KPT.out key val)
      replace KDT := Lib.hid (KDT.out key)
      replace KRT := Lib.hid (fun v W h => KRT.out v W h rfl)
      have KLK := Lib.hid (fun u W (h : RN W u zT.1) => rlike_any zT.1 [] zT.2 0 u (.slice none 0 0) W h (.inl ⟨rfl, rfl⟩))
      rw [show likeT zT.1 zT.2 [] 0 = true from rfl] at KLK
      obtain ⟨x0, x1, -, -⟩ := R3.out.c2
      go_upto_region 5 with (go_at_call 20; (with_reducible refine (KPS.out _ _ (TrA.of HU.out)).mono ?_); rintro e w5 ⟨⟨v5, rfl, hl5⟩, hb⟩; have HL := Lib.hid (show RP w5 v5 [] from hl5); clear hl5; replace HU := Lib.hid (RN.below HU.out hb (Nat.le_refl _)); replace R3 := Lib.hid (R3.out.belowS hb); replace HB := Lib.hid (HB.out.trans (hb.mono HB.out.size)); clear hb KPS; obtain ⟨p5, c5, rfl, -, -⟩ := RowE.shape encP HL.out)
      clear x0 x1 HL
      obtain ⟨x0, x1, -, -⟩ := R3.out.c2
      go_upto_region 8 with (go_at_call 19; (with_reducible refine (KR.out _ _ (TrA.of HU.out)).mono ?_); rintro e w6 ⟨rfl, hb⟩; replace HU := Lib.hid (RN.below HU.out hb (Nat.le_refl _)); replace R3 := Lib.hid (R3.out.belowS hb); replace HB := Lib.hid (HB.out.trans (hb.mono HB.out.size)); clear hb KR)
      clear x0 x1
      obtain ⟨x0, x1, -, -⟩ := R3.out.c2
      go_upto_region 9 with (go_at_call 13; (with_reducible refine (KGT.out _ _ (TrA.of HU.out)).mono ?_); rintro e w7 ⟨rfl, hb⟩; replace HU := Lib.hid (RN.below HU.out hb (Nat.le_refl _)); replace R3 := Lib.hid (R3.out.belowS hb); replace HB := Lib.hid (HB.out.trans (hb.mono HB.out.size)); clear hb KGT)
      clear x0 x1
      obtain ⟨x0, x1, -, -⟩ := R3.out.c2
      go_upto_region 10 with (go_at_call 14; (with_reducible refine (KPT.out _ _ (TrA.of HU.out)).mono ?_); rintro e w8 ⟨v8, rfl, ⟨u8, rfl, hu8⟩, hb⟩; have H8 := Lib.hid hu8; clear hu8; replace HU := Lib.hid (RN.below HU.out hb (Nat.le_refl _)); replace R3 := Lib.hid (R3.out.belowS hb); replace HB := Lib.hid (HB.out.trans (hb.mono HB.out.size)); clear hb KPT; obtain ⟨p8, c8, rfl, -, -⟩ := RowE.shape encN H8.out)
      clear x0 x1
      have hb := (Below.refl w8.heap.size w8).alloc (Nat.le_refl _) (.cells #[.slice p8 zT.1.length c8, .int .i64 zT.2] 37)
      have R12 := Lib.hid (RowAt.new w8 #[.slice p8 zT.1.length c8, .int .i64 zT.2] 37)
      replace HU := Lib.hid (RN.below HU.out hb (Nat.le_refl _))
      replace R3 := Lib.hid (R3.out.belowS hb)
      replace HB := Lib.hid (HB.out.trans (hb.mono HB.out.size))
      replace H8 := Lib.hid (RN.below H8.out hb (Nat.le_refl _))
      clear hb
      generalize w8.alloc (.cells #[.slice p8 zT.1.length c8, .int .i64 zT.2] 37) = w9 at *
      generalize w8.heap.size = k12 at *
      obtain ⟨x0, x1, -, -⟩ := R3.out.c2
      go_upto_region 11 with (go_at_call 16; (with_reducible refine (KDT.out _ _ (TrA.of HU.out)).mono ?_); rintro e w10 ⟨v10, rfl, ⟨u10, rfl, hu10⟩, hb⟩; have H10 := Lib.hid hu10; clear hu10; replace HU := Lib.hid (RN.below HU.out hb (Nat.le_refl _)); replace R3 := Lib.hid (R3.out.belowS hb); replace HB := Lib.hid (HB.out.trans (hb.mono HB.out.size)); replace H8 := Lib.hid (RN.below H8.out hb (Nat.le_refl _)); replace R12 := Lib.hid (R12.out.belowS hb); clear hb KDT; obtain ⟨p10, c10, rfl, -, -⟩ := RowE.shape encN H10.out)
      clear x0 x1
      have hb := (Below.refl w10.heap.size w10).alloc (Nat.le_refl _) (.cells #[.slice p10 zT.1.length c10, .int .i64 zT.2] 37)
      have R14 := Lib.hid (RowAt.new w10 #[.slice p10 zT.1.length c10, .int .i64 zT.2] 37)
      replace HU := Lib.hid (RN.below HU.out hb (Nat.le_refl _))
      replace R3 := Lib.hid (R3.out.belowS hb)
      replace HB := Lib.hid (HB.out.trans (hb.mono HB.out.size))
      replace H8 := Lib.hid (RN.below H8.out hb (Nat.le_refl _))
      replace R12 := Lib.hid (R12.out.belowS hb)
      replace H10 := Lib.hid (RN.below H10.out hb (Nat.le_refl _))
      clear hb
      generalize w10.alloc (.cells #[.slice p10 zT.1.length c10, .int .i64 zT.2] 37) = w11 at *
      generalize w10.heap.size = k14 at *
      obtain ⟨x0, x1, -, -⟩ := R3.out.c2
      go_upto_region 12 with (go_at_call 21; (with_reducible refine (KRT.out _ _ (TrA.of HU.out)).mono ?_); rintro e w12 ⟨rfl, hb⟩; replace HU := Lib.hid (RN.below HU.out hb (Nat.le_refl _)); replace R3 := Lib.hid (R3.out.belowS hb); replace HB := Lib.hid (HB.out.trans (hb.mono HB.out.size)); replace H8 := Lib.hid (RN.below H8.out hb (Nat.le_refl _)); replace R12 := Lib.hid (R12.out.belowS hb); replace H10 := Lib.hid (RN.below H10.out hb (Nat.le_refl _)); replace R14 := Lib.hid (R14.out.belowS hb); clear hb KRT)
      clear x0 x1 HU R3
      have hq : ((mkS []).toList == (ByteArray.mk #[]).toList) = true := by show ((mkS []).toList == (mkS []).toList) = true; exact beq_self_eq_true _
      have hve : (mkS []).toList.isEmpty = true := by rw [mkS_toList]; rfl
      have hq2 : ((ByteArray.mk #[]).toList == (ByteArray.mk #[]).toList) = true := beq_self_eq_true _
      obtain ⟨y0, y1, -, -⟩ := R12.out.c2
      obtain ⟨z0, z1, -, -⟩ := R14.out.c2
      go_wp2_with (first
        | (go_at_call 12; (with_reducible refine (KA.out _).mono ?_); rintro e w13 ⟨rfl, hb⟩; replace H8 := Lib.hid (RN.below H8.out hb (Nat.le_refl _)); replace H10 := Lib.hid (RN.below H10.out hb (Nat.le_refl _)); replace R12 := Lib.hid (R12.out.belowS hb); replace R14 := Lib.hid (R14.out.belowS hb); replace HB := Lib.hid (HB.out.trans (hb.mono HB.out.size)); clear hb KA y0 y1 z0 z1; obtain ⟨y0, y1, -, -⟩ := R12.out.c2; obtain ⟨z0, z1, -, -⟩ := R14.out.c2)
        | (go_at_call 17; (with_reducible refine (KLK.out _ _ H8.out).mono ?_); rintro e w14 ⟨rfl, hb⟩; replace H8 := Lib.hid (RN.below H8.out hb (Nat.le_refl _)); replace H10 := Lib.hid (RN.below H10.out hb (Nat.le_refl _)); replace R12 := Lib.hid (R12.out.belowS hb); replace R14 := Lib.hid (R14.out.belowS hb); replace HB := Lib.hid (HB.out.trans (hb.mono HB.out.size)); clear hb H8 y0 y1 z0 z1; obtain ⟨z0, z1, -, -⟩ := R14.out.c2)
        | (go_at_call 17; (with_reducible refine (KLK.out _ _ H10.out).mono ?_); rintro e w15 ⟨rfl, hb⟩; replace HB := Lib.hid (HB.out.trans (hb.mono HB.out.size)); clear hb))
      go_ret
      exact ⟨rfl, HB.out⟩
end Go.Proofs.Ytefmlbckbhlgdaa
namespace Go.Proofs.Ytefmlbckbhlgdaa
open Go.ChangeShapes Go.WideShapes Go.ChangeAt Go.RowKit
open Go.ChangeMaps (open_string)
set_option maxRecDepth 100000 in
theorem trieWild_calls (H : Type) (enc : TypeId × Value → H) (W : World) (args : Array Value) (ds : List (DataW H)) (p : List MemPlace)
    (T : Told enc Try.prog Try.f6.params.toList W args.toList ds p) :
    Calls Try.prog 6 args W fun e W' => e = .returned (.bool true) ∧ Below W.heap.size W W' := by
  obtain ⟨hA, ⟨base, hval⟩, hlt, hsmall⟩ := T
  rw [Try.params6] at hA hval hsmall
  obtain ⟨v0, vs0, d0, ds0, p0, q0, hargs, rfl, rfl, h0, r0⟩ := trodAll_cons hA
  obtain ⟨v1, vs1, d1, ds1, p1, q1, rfl, rfl, rfl, h1, r1⟩ := trodAll_cons r0
  obtain ⟨v2, vs2, d2, ds2, p2, q2, rfl, rfl, rfl, h2, r2⟩ := trodAll_cons r1
  obtain ⟨rfl, rfl, rfl⟩ := trodAll_nil r2
  rw [hargs] at hval
  obtain rfl : args = #[v0, v1, v2] := by cases args; simp_all
  obtain ⟨hw0, hs0⟩ := small_cons hsmall
  obtain ⟨hw1, hs1⟩ := small_cons hs0
  obtain ⟨hw2, hs2⟩ := small_cons hs1
  obtain ⟨a0, w0⟩ : ∃ x, TrieRep W v0 x := trie_open (hval 0 37 v0 rfl rfl) h0 hw0
  obtain ⟨a1, rfl, rfl, rfl, -⟩ := open_string Try.underlying9 (hval 1 9 v1 rfl rfl) h1
  obtain ⟨a2, rfl, rfl, rfl, -⟩ := open_string Try.underlying9 (hval 2 9 v2 rfl rfl) h2
  exact trieWild_walk W v0 a0 w0 a1 (light_string hw1) a2 (light_string hw2)

set_option maxRecDepth 100000 in
theorem trieWild_lifted (os : Os) (started : os.Started) (H : Type) (enc : TypeId × Value → H) :
    ReturnsInHanded {} Try.checked os 6 .any (Rows.trieWildSpec.pre6 enc Try.prog Try.f6 Rows.trieWildRow.domain false) (Rows.trieWildSpec.post enc Try.prog Try.f6 false true false false) :=
  law_lifted (C := Try.checked) os started Try.own (by kernel_rfl) Try.func6
    (ChangeSpec.witness6 (enc := enc) (C := Try.checked) false ⟨#[], #[.agg #[.slice none 0 0, .int .i64 0], .string ⟨#[]⟩, .string ⟨#[]⟩], []⟩ 20 (by kernel_rfl) (by kernel_rfl) (by kernel_rfl) (by kernel_rfl))
    Try.laidOut (by kernel_rfl) rfl Try.underlying4 rfl
    (fun ds h => by match ds, h with | [_, _, _], _ => rfl)
    (fun W args ds p T => trieWild_calls H enc W args ds p T)

/-- For every input the law returns true. -/
theorem trieWild_holds : Rows.TrieWildSaid :=
  OpenClaim.holds_of_wide 6 Try.f6 rfl rfl rfl rfl rfl rfl rfl ⟨rfl, rfl, rfl, rfl, rfl⟩ rfl rfl rfl rfl rfl (by kernel_rfl) Try.func6 (by kernel_rfl)
    (of_decide_eq_true (by kernel_rfl)) (by unfold Func.isWrapper; first | (rw [if_pos (by decide +kernel)]; kernel_rfl) | (rw [if_neg (by decide +kernel)]; exact ⟨rfl, rfl⟩))
    (fun os started H enc _ => trieWild_lifted os started H enc)
#print axioms trieWild_holds
end Go.Proofs.Ytefmlbckbhlgdaa

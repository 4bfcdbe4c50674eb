/- The reference's root sum of pairs. The trie's root sum of pairs. The law's model: acts one behind the other; what it answers in plain words. -/
import Derived.Test.YtefmlbckbhlgdaaTm15
import Derived.Test.YtefmlbckbhlgdaaTm18
import Derived.Test.YtefmlbckbhlgdaaTm19
namespace Go.Proofs.Ytefmlbckbhlgdaa
open Go.RowKit Go.Shelf
set_option maxRecDepth 100000
theorem cutK_many (k : Nat) (l : List Pr) : (cutK k l).length = l.length := by
  unfold cutK
  rw [List.length_map]
theorem cutC_many (c : Nat) (l : List Pr) : (cutC c l).length ≤ l.length := by
  unfold cutC
  rw [cutK_many]
  exact List.length_filter_le _ _
theorem ritem_all : ∀ (f : Nat) (l : List Pr), POk l → (∀ p ∈ l, p.1.length < f) → l.length ≤ 1000 → (l ≠ [] → RItemC f l) ∧ RToldC f l
  | f, [], _, _, _ => ⟨fun h => absurd rfl h, rtold_nil f⟩
  | 0, p :: l, _, hf, _ => absurd (hf p List.mem_cons_self) (Nat.not_lt_zero _)
  | f + 1, [p], h, hf, _ => by
    have hi := ritem10_leaf f p (h.part p List.mem_cons_self)
    exact ⟨fun _ => hi, rtold_some (f + 1) p [] ((told_good (f + 1) [p] h hf).2.2 (by simp)) hi⟩
  | f + 1, p :: q :: r, h, hf, hl => by
    have hg := (told_good (f + 1) (p :: q :: r) h hf).2.2 (by simp)
    by_cases hc : 0 < commonL (p :: q :: r)
    · have ht := common_take (p := p) (r := q :: r)
      have ih := (ritem_all f (cutK (commonL (p :: q :: r)) (p :: q :: r)) h.common (cutK_lt hc hf fun a ha => (ht a ha).2) (by rw [cutK_many]; exact hl)).2
      have hi := ritem10_joint f p q r hc h.part hl ih
      exact ⟨fun _ => hi, rtold_some (f + 1) p (q :: r) hg hi⟩
    · have ih := fun c (_ : c < 16) => (ritem_all f (cutC c (p :: q :: r)) h.first (cutC_lt hf) (Nat.le_trans (cutC_many _ _) hl)).2
      have hi := ritem10_branch f p q r hc h.part hl ih
      exact ⟨fun _ => hi, rtold_some (f + 1) p (q :: r) hg hi⟩

theorem ItemAns.bel {x : It} {w w' : World} {v : Value} (h : ItemAns x w v w') : Below w.heap.size w w' := by
  obtain ⟨_, _, _, _, _, _, _, _, hb, _⟩ := h
  exact hb
theorem parts_ok {l : List Pr} (h : Pairs l) : POk (partsL l) := ⟨sortP_parts.2 h.1, halfP_parts l, fun p hp => by
    have := parts_len h.2.1 (f := 65) (by omega) p hp
    omega, fun p hp => by
    obtain ⟨q, hq, rfl⟩ := List.mem_map.1 hp
    exact (mayP_len (h.2.1 q hq)).2.2.2⟩
/-- The root sum of pairs. -/
def rootL (l : List Pr) : List UInt8 := if l.isEmpty then hashL else sumL (itemR 200 (partsL l)).write

set_option maxHeartbeats 4000000 in
theorem rroot_none (v : Value) (w : World) (h : RP w v []) : Calls Try.prog 23 #[v] w fun e w' => e = .returned (.string (mkS hashL)) ∧ Below w.heap.size w w' := by
  have KW := Lib.hid (fun W => rwrite_any 1 (.mk false [] []) (by simp [It.size, sizes]) (by rw [show (It.mk false [] []).write = [128] by kernel_rfl]; decide) (.agg #[.bool false, .string ⟨#[]⟩, .slice none 0 0]) W ⟨.slice none 0 0, rfl, by decide, .inl ⟨rfl, rfl⟩⟩)
  rw [show (It.mk false [] []).write = [128] by kernel_rfl] at KW
  have KS := Lib.hid (fun W => rsum_any (mkS [128]) (by rw [mk_size]; decide) W)
  rw [bl_mk, show sumL [128] = hashL from rfl] at KS
  generalize hashL = hs at *
  obtain ⟨p, c, rfl, z1, z2⟩ := RowE.shape encP h
  clear h
  have HB := Lib.hid (Below.refl w.heap.size w)
  go_enter Try.func23, Try.ntmps23
  go_wp2_with (first
    | (go_at_call 49; (with_reducible refine (KW.out _).mono ?_); rintro e w2 ⟨rfl, hb⟩; (replace HB := Lib.hid (HB.out.trans (hb.mono HB.out.size)); clear hb))
    | (go_at_call 48; (with_reducible refine (KS.out _).mono ?_); rintro e w3 ⟨rfl, hb⟩; (replace HB := Lib.hid (HB.out.trans (hb.mono HB.out.size)); clear hb)))
  go_ret
  exact ⟨rfl, HB.out⟩

set_option maxHeartbeats 4000000 in
theorem rroot_some (p0 : Pr) (t : List Pr) (hP : Pairs (p0 :: t)) (v : Value) (w : World) (h : RP w v (p0 :: t)) : Calls Try.prog 23 #[v] w fun e w' => e = .returned (.string (mkS (sumL (itemR 200 (partsL (p0 :: t))).write))) ∧ Below w.heap.size w w' := by
  have hlen : (partsL (p0 :: t)).length = (p0 :: t).length := List.length_map _
  have hne : partsL (p0 :: t) ≠ [] := by unfold partsL; simp
  have KP := Lib.hid (fun W (hb : Below w.heap.size w W) => rparts_any v (p0 :: t) W (RP.below h hb (Nat.le_refl _)) (by have := hP.2.2; omega) (fun p hp => by have := (mayP_len (hP.2.1 p hp)).2.1; omega))
  have KI := Lib.hid ((ritem_all 200 (partsL (p0 :: t)) (parts_ok hP) (parts_len hP.2.1 (by omega)) (by rw [hlen]; have := hP.2.2; omega)).1 hne)
  have HG := Lib.hid ((told_good 200 (partsL (p0 :: t)) (parts_ok hP) (parts_len hP.2.1 (by omega))).2.2 hne)
  unfold RItemC at KI
  obtain ⟨p, c, rfl, z1, z2⟩ := RowE.shape encP h
  have hg0 : ((p0 :: t).length : Int) ≠ 0 := by simp only [List.length_cons]; omega
  generalize itemR 200 (partsL (p0 :: t)) = x at *
  generalize partsL (p0 :: t) = l2 at *
  have HW := Lib.hid (fun (u : Value) W (hu : ItemIs W x u) => HG.out.write8 u W hu)
  have hw4 := HG.out.2.2
  have HS := Lib.hid (fun (u : Value) W0 W (hu : ItemAns x W0 u W) => hu.is HG.out)
  generalize x.write = y at *
  generalize (p0 :: t).length = ln at *
  clear h hlen hne hP HG
  have KS := Lib.hid (fun W => rsum_any (mkS y) (by rw [mk_size]; omega) W)
  rw [bl_mk] at KS
  generalize sumL y = s at *
  have HB := Lib.hid (Below.refl w.heap.size w)
  go_enter Try.func23, Try.ntmps23
  go_wp2_with (first
    | (go_at_call 44; (with_reducible refine (KP.out _ HB.out).mono ?_); rintro e w1 ⟨v1, rfl, hr1, hb⟩; (replace HB := Lib.hid (HB.out.trans (hb.mono HB.out.size)); clear hb))
    | (go_at_call 50; (with_reducible refine (KI.out _ _ hr1).mono ?_); rintro e w2 ⟨u2, rfl, hx⟩; have hi2 := HS.out _ _ _ hx; have hb := ItemAns.bel hx; clear hx; (replace HB := Lib.hid (HB.out.trans (hb.mono HB.out.size)); clear hb))
    | (go_at_call 49; (with_reducible refine (HW.out _ _ hi2).mono ?_); rintro e w3 ⟨rfl, hb⟩; (replace HB := Lib.hid (HB.out.trans (hb.mono HB.out.size)); clear hb))
    | (go_at_call 48; (with_reducible refine (KS.out _).mono ?_); rintro e w4 ⟨rfl, hb⟩; (replace HB := Lib.hid (HB.out.trans (hb.mono HB.out.size)); clear hb)))
  go_ret
  exact ⟨rfl, HB.out⟩

theorem rroot_any (l : List Pr) (hP : Pairs l) (v : Value) (w : World) (h : RP w v l) : Calls Try.prog 23 #[v] w fun e w' => e = .returned (.string (mkS (rootL l))) ∧ Below w.heap.size w w' := by
  cases l with
  | nil => exact rroot_none v w h
  | cons p t => exact rroot_some p t hP v w h
end Go.Proofs.Ytefmlbckbhlgdaa
namespace Go.Proofs.Ytefmlbckbhlgdaa
open Go.RowKit Go.Shelf
set_option maxRecDepth 100000
def noNd : Nd := leafN ([], [])
/-- The last node written, of the first ones. -/
def lastF (ns : List Nd) : Nat → List UInt8
  | 0 => [128]
  | i + 1 => (itN (itemsF (ns.take i)) (ns.getD i noNd)).write
theorem lastF_top (m : List Nd) (n : Nd) : lastF (m ++ [n]) (m ++ [n]).length = (itN (itemsF m) n).write := by
  rw [List.length_append]
  show (itN (itemsF ((m ++ [n]).take m.length)) ((m ++ [n]).getD m.length noNd)).write = _
  rw [List.take_left]
  simp [List.getD_eq_getElem?_getD]
theorem lastF_step {ns : List Nd} {i : Nat} {n : Nd} (h : ns[i]? = some n) : lastF ns (i + 1) = (itN (itemsF (ns.take i)) n).write := by
  show (itN (itemsF (ns.take i)) (ns.getD i noNd)).write = _
  rw [List.getD_eq_getElem?_getD, h]
  rfl
theorem itemsF_step {ns : List Nd} {i : Nat} {n : Nd} (h : ns[i]? = some n) : itemsF (ns.take (i + 1)) = itemsF (ns.take i) ++ [referI (itN (itemsF (ns.take i)) n)] := by
  rw [List.take_add_one, h]
  exact itemsF_snoc _ _

set_option maxHeartbeats 8000000 in
theorem trRoot_some (p0 : Pr) (t : List Pr) (hP : Pairs (p0 :: t)) (v : Value) (w : World) (h : TrA w v (ofT (p0 :: t))) : Calls Try.prog 21 #[v] w fun e w' => e = .returned (.tuple #[.string (mkS (sumL (itemR 200 (partsL (p0 :: t))).write)), .int .i64 0]) ∧ Below w.heap.size w w' := by
  have KR := Lib.hid (fun W (hb : Below w.heap.size w W) => trRight_any (ofT (p0 :: t)) (ofT_ok hP) v W (h.below hb))
  rw [pairsT_of hP] at KR
  have L := lay_sums 200 (partsL (p0 :: t)) [] (parts_ok hP) (parts_len hP.2.1 (by omega))
  replace L : LayS 200 (partsL (p0 :: t)) [] (ofT (p0 :: t)) := L
  have hne : partsL (p0 :: t) ≠ [] := by unfold partsL; simp
  have hg := (told_good 200 (partsL (p0 :: t)) (parts_ok hP) (parts_len hP.2.1 (by omega))).2.2 hne
  have hln := layF_len 200 (partsL (p0 :: t)) []
  replace hln : (ofT (p0 :: t)).1.length ≤ 0 + 200 * (partsL (p0 :: t)).length := hln
  rw [show (partsL (p0 :: t)).length = (p0 :: t).length from List.length_map _] at hln
  have hl64 := hP.2.2
  obtain ⟨m, n0, em, en⟩ := L.top hne
  have HGO : Hid (∀ i n, (ofT (p0 :: t)).1[i]? = some n → NdG i n (itemsF ((ofT (p0 :: t)).1.take i))) := Lib.hid (fun i n hn => L.good i n (Nat.zero_le _) hn)
  have HLA : Hid (lastF (ofT (p0 :: t)).1 (ofT (p0 :: t)).1.length = (itemR 200 (partsL (p0 :: t))).write) := Lib.hid (by rw [em, lastF_top, en])
  have hw := hg.2.2
  clear L em en hne hg
  generalize (itemR 200 (partsL (p0 :: t))).write = y at *
  generalize ofT (p0 :: t) = tr at *
  obtain ⟨ns, r⟩ := tr
  obtain ⟨u, rfl, hu⟩ := h
  simp only at hu HGO HLA hln
  replace hln : ns.length ≤ 600000 := by omega
  obtain ⟨p, c, rfl, z1, z2⟩ := RowE.shape encN hu
  unfold maxLen at z2
  have HU := Lib.hid hu
  have KE := Lib.hid none_enc
  have KS : Hid (∀ W, Calls Try.prog 47 #[.string (mkS y)] W fun e w' => e = .returned (.string (mkS (sumL y))) ∧ Below W.heap.size W w') := Lib.hid (fun W => by
    have := sum_any (mkS y) (by rw [mk_size]; omega) W
    rwa [bl_mk] at this)
  generalize sumL y = hs at *
  clear hP hl64 hu hw
  have HB := Lib.hid ((Below.refl w.heap.size w).alloc (Nat.le_refl _) (.cells #[.slice p ns.length c, .int .i64 r] 37))
  have RB := Lib.hid (RowAt.new w #[.slice p ns.length c, .int .i64 r] 37)
  obtain ⟨x0, x1, -, -⟩ := RB.out.c2
  go_enter Try.func21, Try.ntmps21
  go_upto_region 3 with (go_at_call 19; (with_reducible refine (KR.out _ HB.out).mono ?_); rintro e w2 ⟨rfl, hb⟩; have RB2 := Lib.hid (RB.out.belowS hb); have HB2 := Lib.hid (HB.out.trans (hb.mono HB.out.size)); clear hb)
  clear x0 x1 RB HB
  have RS := Lib.hid (RowAt.new w2 #[.slice none 0 0, .string ⟨#[]⟩] 95)
  have RB3 := Lib.hid (RB2.out.alloc (.cells #[.slice none 0 0, .string ⟨#[]⟩] 95))
  have HB3 := Lib.hid (HB2.out.alloc HB2.out.size (.cells #[.slice none 0 0, .string ⟨#[]⟩] 95))
  have HKS := Lib.hid (show w.heap.size < w2.heap.size from RB2.out.lt)
  clear RB2 HB2
  go_upto_region 4 with (fail)
  generalize w2.alloc (.cells #[.slice none 0 0, .string ⟨#[]⟩] 95) = w3 at *
  generalize w2.heap.size = ks at *
  obtain ⟨s0, s1, sf0, sf1⟩ := RS.out.c2
  go_upto_region 5 with (go_at_call 45; (with_reducible refine (KE.out _).mono ?_); rintro e w4 ⟨rfl, hb⟩; have RS4 := Lib.hid (RS.out.belowS hb); have RB4 := Lib.hid (RB3.out.belowS hb); have HB4 := Lib.hid (HB3.out.trans (hb.mono HB3.out.size)); clear hb s0 s1 sf0 sf1; obtain ⟨s0, s1, sf0, sf1⟩ := RS4.out.c2)
  have RS5 := Lib.hid (RS4.out.set 1 (.string (mkS [128])) (cs' := #[.slice none 0 0, .string (mkS [128])]) rfl)
  have RB5 := Lib.hid (RB4.out.other ⟨ks, 1, none⟩ (.string (mkS [128])) (Nat.ne_of_lt HKS.out))
  have HB5 := Lib.hid (HB4.out.setCell (p := ⟨ks, 1, none⟩) (Nat.le_of_lt HKS.out) (.string (mkS [128])))
  clear s0 s1 sf0 sf1 RS RB3 HB3 RS4 RB4 HB4
  generalize w4.setCell ⟨ks, 1, none⟩ (.string (mkS [128])) = w5 at *
  have S5 : Hid (SmT w5 ks (ks + 1) none 0 (lastF ns 0) (itemsF (ns.take 0))) := Lib.hid ⟨RS5.out, OwnT.nil _ _, Nat.lt_succ_self _, RS5.out.lt⟩
  obtain ⟨x0, -, -, -⟩ := RB5.out.c2
  go_upto_region 6 with (fail)
  clear x0 RB5 RS5
  go_loopw [23] (fun s wr => ∃ (i : Nat) (po : Option Addr) (co : Nat), i ≤ ns.length ∧ s = .int .i64 i ∧ Hid (SmT wr ks (ks + 1) po co (lastF ns i) (itemsF (ns.take i))) ∧ Hid (Below w.heap.size w wr)) (fun s _ => ns.length - (intOf s).toNat)
  case atStart => exact ⟨0, none, 0, Nat.zero_le _, rfl, S5, HB5⟩
  case round =>
    clear S5 HB5
    obtain ⟨i, po, co, hi, rfl, hs5, hb5⟩ := hrel
    have S := Lib.hid hs5.out
    have HB := Lib.hid hb5.out
    clear hs5 hb5
    by_cases hlt : i < ns.length
    · obtain ⟨n, hn⟩ : ∃ n, ns[i]? = some n := ⟨_, List.getElem?_eq_getElem hlt⟩
      have hil : (i : Int) < ns.length := by omega
      obtain ⟨a, rfl, hnd⟩ := NdAt.ofRowE (RN.below HU.out HB.out (Nat.le_refl _)) hn
      have HN := Lib.hid hnd
      have HG := Lib.hid (HGO.out i n hn)
      have HL1 := Lib.hid (lastF_step hn)
      have HI1 := Lib.hid (itemsF_step hn)
      have HIL : Hid ((itemsF (ns.take i)).length = i) := Lib.hid (by rw [itemsF_len, List.length_take]; omega)
      clear hnd hn
      generalize itemsF (ns.take i) = its at *
      generalize lastF ns i = la at *
      go_upto_region 9 with (first
        | (refine wpList_load_nd rfl _ rfl _ n rfl HN.out ?_)
        | (refine wpList_store_nd rfl _ _ rfl wr.heap.size n rfl rfl _ (RowAt.new' _ _ _ rfl) rfl ?_; intro w6 hr6 hb6 ho6 hs6; have R := Lib.hid (NdAt.ofRow hr6); have hbx := hb6 wr.heap.size wr ((Below.refl wr.heap.size wr).alloc (Nat.le_refl _) _) (Nat.le_refl _); replace S := Lib.hid (S.out.below hbx); replace HB := Lib.hid (HB.out.trans (hbx.mono HB.out.size)); clear hr6 hb6 ho6 hs6 hbx)
        | (refine wpList_load_nd rfl _ rfl _ n rfl R.out ?_)
        | (go_at_call 46; (with_reducible refine (sadd_any n its (show NdG its.length n its from by rw [HIL.out]; exact HG.out) (by rw [HIL.out]; omega) ks (ks + 1) po co la _ S.out).mono ?_); rintro e w7 ⟨po', co', rfl, hs7, hb7⟩; have S7 := Lib.hid hs7; replace HB := Lib.hid (HB.out.trans (hb7.mono (Nat.le_of_lt HKS.out))); clear hs7 hb7 S))
      rw [← HL1.out, ← HI1.out] at S7
      clear HN HG HL1 HI1 HIL R
      go_wp2
      exact ⟨⟨i + 1, po', co', by omega, by simp, S7, HB⟩, by simp [intOf]; omega⟩
    · obtain rfl : i = ns.length := by omega
      have HSTOP := hlt
      obtain ⟨s0, s1, sf0, sf1⟩ := S.out.row.c2
      rw [HLA.out] at s1
      clear HGO
      go_wp2_with (go_at_call 47; (with_reducible refine (KS.out _).mono ?_); rintro e w6 ⟨rfl, hb⟩; replace HB := Lib.hid (HB.out.trans (hb.mono HB.out.size)); clear hb)
      go_ret2
      exact ⟨rfl, HB.out⟩

set_option maxHeartbeats 2000000 in
theorem trRoot_nil2 (p : Option Addr) (c : Nat) (w : World) (hu : RN w (.slice p 0 c) []) : Calls Try.prog 21 #[.agg #[.slice p 0 c, .int .i64 (-1)]] w fun e w' => e = .returned (.tuple #[.string (mkS hashL), .int .i64 0]) ∧ Below w.heap.size w w' := by
  have KR := Lib.hid (fun W (hb : Below w.heap.size w W) => trRight_any ([], -1) TOk.nil (.agg #[.slice p 0 c, .int .i64 (-1)]) W ⟨_, rfl, RN.below hu hb (Nat.le_refl _)⟩)
  clear hu
  rw [pairsT_nil] at KR
  have KE := Lib.hid none_enc
  have KS := Lib.hid (fun W => sum_any (mkS [128]) (by rw [mk_size]; decide) W)
  rw [bl_mk, show sumL [128] = hashL from rfl] at KS
  generalize hashL = hs at *
  have HB := Lib.hid ((Below.refl w.heap.size w).alloc (Nat.le_refl _) (.cells #[.slice p 0 c, .int .i64 (-1)] 37))
  have RB := Lib.hid (RowAt.new w #[.slice p 0 c, .int .i64 (-1)] 37)
  obtain ⟨x0, x1, -, -⟩ := RB.out.c2
  go_enter Try.func21, Try.ntmps21
  go_upto_region 3 with (go_at_call 19; (with_reducible refine (KR.out _ HB.out).mono ?_); rintro e w2 ⟨rfl, hb⟩; have RB2 := Lib.hid (RB.out.belowS hb); have HB2 := Lib.hid (HB.out.trans (hb.mono HB.out.size)); clear hb)
  clear x0 x1 RB HB
  have RS := Lib.hid (RowAt.new w2 #[.slice none 0 0, .string ⟨#[]⟩] 95)
  have RB3 := Lib.hid (RB2.out.alloc (.cells #[.slice none 0 0, .string ⟨#[]⟩] 95))
  have HB3 := Lib.hid (HB2.out.alloc HB2.out.size (.cells #[.slice none 0 0, .string ⟨#[]⟩] 95))
  have HKS := Lib.hid (show w.heap.size < w2.heap.size from RB2.out.lt)
  clear RB2 HB2
  go_upto_region 4 with (fail)
  generalize w2.alloc (.cells #[.slice none 0 0, .string ⟨#[]⟩] 95) = w3 at *
  generalize w2.heap.size = ks at *
  obtain ⟨s0, s1, sf0, sf1⟩ := RS.out.c2
  go_upto_region 5 with (go_at_call 45; (with_reducible refine (KE.out _).mono ?_); rintro e w4 ⟨rfl, hb⟩; have RS4 := Lib.hid (RS.out.belowS hb); have RB4 := Lib.hid (RB3.out.belowS hb); have HB4 := Lib.hid (HB3.out.trans (hb.mono HB3.out.size)); clear hb s0 s1 sf0 sf1; obtain ⟨s0, s1, sf0, sf1⟩ := RS4.out.c2)
  have RS5 := Lib.hid (RS4.out.set 1 (.string (mkS [128])) (cs' := #[.slice none 0 0, .string (mkS [128])]) rfl)
  have RB5 := Lib.hid (RB4.out.other ⟨ks, 1, none⟩ (.string (mkS [128])) (Nat.ne_of_lt HKS.out))
  have HB5 := Lib.hid (HB4.out.setCell (p := ⟨ks, 1, none⟩) (Nat.le_of_lt HKS.out) (.string (mkS [128])))
  clear s0 s1 sf0 sf1 RS RB3 HB3 RS4 RB4 HB4
  generalize w4.setCell ⟨ks, 1, none⟩ (.string (mkS [128])) = w5 at *
  obtain ⟨x0, -, -, -⟩ := RB5.out.c2
  obtain ⟨-, s1, -, -⟩ := RS5.out.c2
  go_upto_region 6 with (fail)
  go_loopw [23] (fun s wr => s = .int .i64 0 ∧ w5 = wr) (fun _ _ => 0)
  case atStart => exact ⟨rfl, rfl⟩
  case round =>
    obtain ⟨rfl, rfl⟩ := hrel
    go_wp2_with (go_at_call 47; (with_reducible refine (KS.out _).mono ?_); rintro e w6 ⟨rfl, hb⟩)
    go_ret2
    exact ⟨rfl, HB5.out.trans (hb.mono HB5.out.size)⟩
theorem trRoot_any (l : List Pr) (hP : Pairs l) (v : Value) (w : World) (h : TrA w v (ofT l)) : Calls Try.prog 21 #[v] w fun e w' => e = .returned (.tuple #[.string (mkS (rootL l)), .int .i64 0]) ∧ Below w.heap.size w w' := by
  cases l with
  | nil =>
    obtain ⟨u, rfl, hu⟩ := h
    have e : ofT [] = ([], -1) := rfl
    rw [e] at hu ⊢
    obtain ⟨p, c, rfl, z1, z2⟩ := RowE.shape encN hu
    exact trRoot_nil2 p c w hu
  | cons p t => exact trRoot_some p t hP v w h
end Go.Proofs.Ytefmlbckbhlgdaa
namespace Go.Proofs.Ytefmlbckbhlgdaa
open Go.RowKit Go.Shelf
set_option maxRecDepth 100000
def keyA (a : Pr) : List UInt8 := a.1.take 40
def valA (a : Pr) : List UInt8 := a.2.take 600
/-- What an act makes of the pairs. -/
def actF (l : List Pr) (a : Pr) : List Pr :=
  if valA a = [] then delL (keyA a) l else if mayP (keyA a, valA a) && ((getL (keyA a) l).isSome || decide (l.length < 64)) then putL (keyA a) (valA a) l else l
def modelL (acts : List Pr) : List Pr := (acts.take 90).foldl actF []
theorem actF_pairs {l : List Pr} (h : Pairs l) (a : Pr) : Pairs (actF l a) := by
  unfold actF
  split
  · exact h.del
  · split
    · rename_i h2
      rw [Bool.and_eq_true, Bool.or_eq_true, decide_eq_true_eq] at h2
      exact h.put h2.1 h2.2
    · exact h
theorem foldl_pairs : ∀ (acts : List Pr) {l : List Pr}, Pairs l → Pairs (acts.foldl actF l)
  | [], _, h => h
  | a :: acts, _, h => foldl_pairs acts (actF_pairs h a)
theorem modelL_pairs (acts : List Pr) : Pairs (modelL acts) := foldl_pairs _ Pairs.nil
theorem foldl_take {acts : List Pr} {i : Nat} {x : Pr} (hx : acts[i]? = some x) : (acts.take (i + 1)).foldl actF [] = actF ((acts.take i).foldl actF []) x := by
  rw [List.take_add_one, hx, List.foldl_append]; rfl
theorem foldl_stop {acts : List Pr} {i : Nat} (h : i = acts.length ∨ i = 90) (h2 : i ≤ 90) (_h3 : i ≤ acts.length) : (acts.take i).foldl actF [] = modelL acts := by
  unfold modelL
  rcases h with h | h
  · rw [h, List.take_length, List.take_of_length_le (by omega)]
  · rw [h]

/-- A small block of a trie's cells holds no pair. -/
theorem RP.apart_trie {w : World} {u : Value} {l : List Pr} {k : Nat} {p : Option Addr} {n c : Nat} {r : Int} {T : TypeId} (h : RP w u l) (hr : RowAt w k #[.slice p n c, .int .i64 r] T) : l ≠ [] → u.ownBlock ≠ some k := fun hl e => by
  rcases h with ⟨_, h⟩ | ⟨a, cap, rfl, h1, h2, hc⟩
  · exact hl h
  · cases l with
    | nil => exact hl rfl
    | cons x l =>
      simp only [Value.ownBlock, Option.some.injEq] at e
      have h0 := hc 1 (.string (mkS x.2)) rfl
      have hadd : a.add 1 = ⟨a.block, a.off + 1, none⟩ := rfl
      rw [hadd, e, hr.cell] at h0
      have : a.off + 1 = 1 ∨ 2 ≤ a.off + 1 := by omega
      rcases this with h3 | h3
      · rw [h3] at h0; cases h0
      · rw [Array.getElem?_eq_none (by simp; omega)] at h0; cases h0
theorem RP.set {w : World} {u : Value} {l : List Pr} (h : RP w u l) {k : Nat} (hk : l ≠ [] → u.ownBlock ≠ some k) (i : Nat) (x : Value) : RP (w.setCell ⟨k, i, none⟩ x) u l :=
  h.keep fun hl b e => heap_setCell_other _ ⟨k, i, none⟩ _ _ (fun e2 => hk hl (by rw [e, e2]))

set_option maxHeartbeats 1000000 in
theorem rmay_any (k v : List UInt8) (w : World) : Calls Try.prog 15 #[.string (mkS k), .string (mkS v)] w fun e w' => e = .returned (.bool (mayP (k, v))) ∧ w = w' := by
  have H : Hid (mayP (k, v) = (decide (1 ≤ k.length) && decide (k.length ≤ 32) && decide (1 ≤ v.length) && decide (v.length ≤ 500))) := Lib.hid rfl
  generalize mayP (k, v) = b at *
  have z1 : (mkS k).size = k.length := mk_size k
  have z2 : (mkS v).size = v.length := mk_size v
  generalize mkS k = ks at *
  generalize mkS v = vs at *
  by_cases h1 : 1 ≤ k.length
  · by_cases h2 : k.length ≤ 32
    · by_cases h3 : 1 ≤ v.length
      · by_cases h4 : v.length ≤ 500
        · have hb : Hid (b = true) := Lib.hid (by rw [H.out]; simp [h1, h2, h3, h4])
          clear H
          have g1 : (1 : Int) ≤ ks.size := by omega
          have g2 : (ks.size : Int) ≤ 32 := by omega
          have g3 : (1 : Int) ≤ vs.size := by omega
          have g4 : (vs.size : Int) ≤ 500 := by omega
          clear z1 z2 h1 h2 h3 h4
          go_enter Try.func15, Try.ntmps15
          go_wp2
          go_ret
          exact ⟨by rw [hb.out]; rfl, rfl⟩
        · have hb : Hid (b = false) := Lib.hid (by rw [H.out]; simp [h4])
          clear H
          have g1 : (1 : Int) ≤ ks.size := by omega
          have g2 : (ks.size : Int) ≤ 32 := by omega
          have g3 : (1 : Int) ≤ vs.size := by omega
          have g4 : ¬ (vs.size : Int) ≤ 500 := by omega
          clear z1 z2 h1 h2 h3 h4
          go_enter Try.func15, Try.ntmps15
          go_wp2
          go_ret
          exact ⟨by rw [hb.out]; rfl, rfl⟩
      · have hb : Hid (b = false) := Lib.hid (by rw [H.out]; simp [h3])
        clear H
        have g1 : (1 : Int) ≤ ks.size := by omega
        have g2 : (ks.size : Int) ≤ 32 := by omega
        have g3 : ¬ (1 : Int) ≤ vs.size := by omega
        clear z1 z2 h1 h2 h3
        go_enter Try.func15, Try.ntmps15
        go_wp2
        go_ret
        exact ⟨by rw [hb.out]; rfl, rfl⟩
    · have hb : Hid (b = false) := Lib.hid (by rw [H.out]; simp [h2])
      clear H
      have g1 : (1 : Int) ≤ ks.size := by omega
      have g2 : ¬ (ks.size : Int) ≤ 32 := by omega
      clear z1 z2 h1 h2
      go_enter Try.func15, Try.ntmps15
      go_wp2
      go_ret
      exact ⟨by rw [hb.out]; rfl, rfl⟩
  · have hb : Hid (b = false) := Lib.hid (by rw [H.out]; simp [h1])
    clear H
    have g1 : ¬ (1 : Int) ≤ ks.size := by omega
    clear z1 z2 h1
    go_enter Try.func15, Try.ntmps15
    go_wp2
    go_ret
    exact ⟨by rw [hb.out]; rfl, rfl⟩
end Go.Proofs.Ytefmlbckbhlgdaa

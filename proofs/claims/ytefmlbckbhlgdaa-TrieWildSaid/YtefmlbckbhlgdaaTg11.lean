/- The trie: walk at a branch that bears a value; walk, all of it. The trie: pairs, walked. Regions that draw their order: reads and effects in any row that one likes, then a tail in one order. The trie: pairs of a trie with a root. Vote: slices.Insert on a row of the call's own. Vote: slices.Delete of one address out of a row of the call's own. -/
import Derived.Laws.CopyRow
import Derived.Lib.AppendZeros
import Derived.Lib.Overlaps
import Derived.Test.YtefmlbckbhlgdaaTg0
import Derived.Test.YtefmlbckbhlgdaaTg2
import Derived.Test.YtefmlbckbhlgdaaTg6
import Derived.Test.YtefmlbckbhlgdaaTg10
namespace Go.Proofs.Ytefmlbckbhlgdaa
open Go.RowKit Go.Shelf
set_option maxRecDepth 100000
set_option maxHeartbeats 8000000 in
theorem walk_branchN (ns : List Nd) (ko : Nat) (u : Value) (r : Int) (i : Nat) (n : Nd) (part : List UInt8) (out : List Pr) (sv : Value) (w : World) (hs : OS w ko sv out) (hr : ARN w ko sv u ns) (hp : part.length ≤ 64) (hn : ns[i]? = some n) (hk : n.kind = 3) (hv : n.value ≠ []) (ho : out.length ≤ 64) (hy : (yieldL out part n.value).2 = false) : Calls Try.prog 68 #[.agg #[u, .int .i64 r], .int .i64 i, .string (mkS part), fnY ko] w (FillAns ko sv ((yieldL out part n.value).1, false) w) := by
  have eg : ∀ args w, (callFunc 69 args).run Try.prog w = .ok (.enter 69 args) w := fun args w => by kernel_rfl
  have KY := Lib.hid (fun W (h : OS W ko sv out) => yield_any part n.value out ko sv W h (by omega) ho)
  generalize yieldL out part n.value = y at *
  obtain ⟨y1, y2⟩ := y
  simp only at hy
  subst hy
  have hve : (mkS n.value).toList.isEmpty = false := by rw [mkS_toList]; exact List.isEmpty_eq_false_iff.2 hv
  clear hv
  have hi : i < ns.length := (List.getElem?_eq_some_iff.1 hn).1
  obtain ⟨p, cp, rfl, z1, z2⟩ := RowE.shape encN hr.1
  have HB := Lib.hid ((Below.refl w.heap.size w).alloc (Nat.le_refl _) (.cells #[.slice p ns.length cp, .int .i64 r] 37))
  have HS := Lib.hid hs
  have HR := Lib.hid hr
  have RB := Lib.hid (RowAt.new w #[.slice p ns.length cp, .int .i64 r] 37)
  have R1 := RB.out.c2.1
  have g1 : ¬ (i : Int) < 0 := by omega
  have g2 : decide (ns.length ≤ i) = false := decide_eq_false (by omega)
  have hsz := mk_size part
  have g3 : decide ((64 : Int) < part.length) = false := decide_eq_false (by omega)
  have hil : (i : Int) < ns.length := by omega
  obtain ⟨a, rfl, hnd⟩ := NdAt.ofRowE (RN.below HR.out.1 HB.out (Nat.le_refl _)) hn
  have HN := Lib.hid hnd
  clear hs hr hn hnd
  go_enter Try.func68, Try.ntmps68
  go_upto_region 4 with (first
    | (refine wpList_load_nd rfl _ rfl _ n rfl HN.out ?_)
    | (refine wpList_store_nd rfl _ _ rfl (w.heap.size + 1) n rfl rfl _ (RowAt.new' _ _ _ (by simp)) rfl ?_; intro w3 hr3 hb3 ho3 hs3; have R := Lib.hid hr3; replace RB := Lib.hid (show RowAt w3 w.heap.size _ _ from (ho3 _ (by omega)).trans (RB.out.alloc _)); replace HB := Lib.hid (hb3 w.heap.size w (HB.out.alloc HB.out.size _) (Nat.le_succ _)); clear hr3 hb3 ho3 hs3))
  have HS3 := Lib.hid (HS.out.below HB.out)
  have HR3 := Lib.hid (HR.out.below HB.out)
  obtain ⟨c0, c1, c2, -⟩ := R.out.nd
  clear R1 HN HR HS
  rw [hk] at c0
  go_wp2_with (go_at_fn 69; (with_reducible refine (KY.out w3 HS3.out).mono ?_); rintro e w4 ⟨sv4, rfl, hs4, hk4, hf4⟩)
  go_ret
  exact FillAns.of HB.out ⟨sv4, rfl, hs4, hk4, hf4⟩
set_option maxHeartbeats 8000000 in
theorem walk_branchB (ns : List Nd) (ko : Nat) (u : Value) (r : Int) (i : Nat) (n : Nd) (part : List UInt8) (out : List Pr) (sv : Value) (w : World) (hs : OS w ko sv out) (hr : ARN w ko sv u ns) (hp : part.length ≤ 64) (hn : ns[i]? = some n) (f : Nat) (hk : n.kind = 3) (hkl : n.kids.length = 16) (hv : n.value ≠ []) (ho : out.length ≤ 64) (hy : (yieldL out part n.value).2 = true)
    (KW : ∀ c, c < 16 → ∀ out1 : List Pr, out1.length ≤ 64 → n.kids.getD c 0 < i → ∀ sv1 u W, OS W ko sv1 out1 → ARN W ko sv1 u ns → Calls Try.prog 68 #[.agg #[u, .int .i64 r], .int .i64 (n.kids.getD c 0), .string (mkS (part ++ [UInt8.ofNat c])), fnY ko] W (FillAns ko sv1 (walkF ns f (n.kids.getD c 0) (part ++ [UInt8.ofNat c]) out1) W)) : Calls Try.prog 68 #[.agg #[u, .int .i64 r], .int .i64 i, .string (mkS part), fnY ko] w (FillAns ko sv (kidsW (walkF ns f) i part n.kids 0 (yieldL out part n.value).1) w) := by
  have eg : ∀ args w, (callFunc 69 args).run Try.prog w = .ok (.enter 69 args) w := fun args w => by kernel_rfl
  have KY := Lib.hid (fun W (h : OS W ko sv out) => yield_any part n.value out ko sv W h (by omega) ho)
  have HL : (yieldL out part n.value).1.length ≤ 64 := yield_few hy
  generalize yieldL out part n.value = y at *
  obtain ⟨y1, y2⟩ := y
  simp only at hy HL
  subst hy
  have HK : Hid (kidsW (walkF ns f) i part (n.kids.drop 0) 0 y1 = kidsW (walkF ns f) i part n.kids 0 y1) := Lib.hid rfl
  generalize kidsW (walkF ns f) i part n.kids 0 y1 = K0 at *
  have HKD := Lib.hid (fun c (hc : c < 16) => kids_drop hkl hc)
  have HKB := Lib.hid (show w.heap.size ≠ ko ∧ sv.ownBlock ≠ some w.heap.size ∧ w.heap.size < w.heap.size + 1 from ⟨fun e => by have := hs.1.lt; omega, fun e => by have := (hs.own _ e).2; omega, Nat.lt_succ_self _⟩)
  have HKC := Lib.hid (show w.heap.size + 1 ≠ ko ∧ sv.ownBlock ≠ some (w.heap.size + 1) from ⟨fun e => by have := hs.1.lt; omega, fun e => by have := (hs.own _ e).2; omega⟩)
  have HKA := Lib.hid (fun c (hc : c < 16) => kdc_at n c hc)
  replace KW := Lib.hid KW
  replace hkl := Lib.hid hkl
  have hve : (mkS n.value).toList.isEmpty = false := by rw [mkS_toList]; exact List.isEmpty_eq_false_iff.2 hv
  clear hv
  have hi : i < ns.length := (List.getElem?_eq_some_iff.1 hn).1
  obtain ⟨p, cp, rfl, z1, z2⟩ := RowE.shape encN hr.1
  have HB := Lib.hid ((Below.refl w.heap.size w).alloc (Nat.le_refl _) (.cells #[.slice p ns.length cp, .int .i64 r] 37))
  have HS := Lib.hid hs
  have HR := Lib.hid hr
  have RB := Lib.hid (RowAt.new w #[.slice p ns.length cp, .int .i64 r] 37)
  have R1 := RB.out.c2.1
  have g1 : ¬ (i : Int) < 0 := by omega
  have g2 : decide (ns.length ≤ i) = false := decide_eq_false (by omega)
  have hsz := mk_size part
  have g3 : decide ((64 : Int) < part.length) = false := decide_eq_false (by omega)
  have hil : (i : Int) < ns.length := by omega
  obtain ⟨a, rfl, hnd⟩ := NdAt.ofRowE (RN.below HR.out.1 HB.out (Nat.le_refl _)) hn
  have HN := Lib.hid hnd
  clear hs hr hn hnd
  go_enter Try.func68, Try.ntmps68
  go_upto_region 4 with (first
    | (refine wpList_load_nd rfl _ rfl _ n rfl HN.out ?_)
    | (refine wpList_store_nd rfl _ _ rfl (w.heap.size + 1) n rfl rfl _ (RowAt.new' _ _ _ (by simp)) rfl ?_; intro w3 hr3 hb3 ho3 hs3; have R := Lib.hid hr3; replace RB := Lib.hid (show RowAt w3 w.heap.size _ _ from (ho3 _ (by omega)).trans (RB.out.alloc _)); replace HB := Lib.hid (hb3 w.heap.size w (HB.out.alloc HB.out.size _) (Nat.le_succ _)); clear hr3 hb3 ho3 hs3))
  have HS3 := Lib.hid (HS.out.below HB.out)
  have HR3 := Lib.hid (HR.out.below HB.out)
  obtain ⟨c0, c1, c2, -⟩ := R.out.nd
  clear R1 HN HR HS
  rw [hk] at c0
  go_upto_region 12 with (go_at_fn 69; (with_reducible refine (KY.out w3 HS3.out).mono ?_); rintro e w4 ⟨sv4, rfl, hs4, hk4, hf4⟩; have HS := Lib.hid hs4; have HK4 := Lib.hid hk4; have HF4 := Lib.hid hf4; clear hs4 hk4 hf4 KY)
  have HR := Lib.hid (HR3.out.step HK4.out HF4.out)
  have AK0 := Lib.hid ((AK.ofBelow (ka := ko) (r := sv.ownBlock) HB.out).same HK4.out)
  have F0 := Lib.hid (show Fr w sv sv4 from fun g e => (HF4.out g e).imp id (fun h => Nat.le_trans HB.out.size h))
  have B0 := Lib.hid (HF4.out.ne RB.out.lt HKB.out.2.1)
  replace RB := Lib.hid (RB.out.ak HK4.out HKB.out.1 HKB.out.2.1)
  replace R := Lib.hid (R.out.ak HK4.out HKC.out.1 HKC.out.2)
  clear HS3 HR3 HB c0 c1 c2 HK4 HF4
  go_upto_region 13 with (refine wpList_load_kids rfl _ rfl (w.heap.size + 1) n rfl R.out ?_)
  clear R
  go_loopw [77] (fun s wr => ∃ (c : Nat) (out1 : List Pr) (sv1 : Value), c ≤ 16 ∧ s = .int .i64 c ∧ out1.length ≤ 64 ∧ Hid (kidsW (walkF ns f) i part (n.kids.drop c) c out1 = K0) ∧ Hid (OS wr ko sv1 out1) ∧ Hid (ARN wr ko sv1 (.slice (some a) ns.length cp) ns) ∧ Hid (RowAt wr w.heap.size #[.slice (some a) ns.length cp, .int .i64 r] 37) ∧ Hid (AK ko sv.ownBlock w wr) ∧ Hid (Fr w sv sv1) ∧ Hid (sv1.ownBlock ≠ some w.heap.size)) (fun s _ => 16 - (intOf s).toNat)
  case atStart => exact ⟨0, y1, sv4, Nat.zero_le _, rfl, HL, HK, HS, HR, RB, AK0, F0, B0⟩
  case round =>
    clear HK HS HR RB AK0 F0 B0
    obtain ⟨c, out1, sv1, hc, rfl, hl1, hk1, hs1, hr1, hrb1, hak1, hf1, hbb1⟩ := hrel
    have HK := Lib.hid hk1.out
    have HS := Lib.hid hs1.out
    have HR := Lib.hid hr1.out
    have RB := Lib.hid hrb1.out
    have AK1 := Lib.hid hak1.out
    have F1 := Lib.hid hf1.out
    have B1 := Lib.hid hbb1.out
    clear hk1 hs1 hr1 hrb1 hak1 hf1 hbb1
    by_cases hlt : c < 16
    · have hkd := HKD.out c hlt
      have hka := HKA.out c hlt
      have KWc := Lib.hid (KW.out c hlt out1 hl1)
      have hd := HK.out
      rw [hkd] at hd
      clear hkd HK
      generalize hkz : n.kids.getD c 0 = k at *
      replace hkz := Lib.hid hkz
      rw [kidsW] at hd
      have hka2 : (kdc n)[c]? = some (.int .i64 k) := by rw [hka, ← hkz.out]; rfl
      have hix := index_kids hlt hka2
      clear hka hka2
      by_cases e1 : k = -1
      · rw [if_pos e1] at hd
        have HK2 := Lib.hid hd
        have q1 : (k != -1) = false := by simp [e1]
        clear hd KWc e1
        go_wp2
        exact ⟨⟨c + 1, out1, sv1, by omega, by simp, hl1, HK2, HS, HR, RB, AK1, F1, B1⟩, by simp [intOf]; omega⟩
      · rw [if_neg e1] at hd
        have q1 : (k != -1) = true := bne_iff_ne.2 e1
        by_cases e2 : k < i
        · rw [if_pos e2] at hd
          have KX := Lib.hid (KWc.out e2)
          have HXL := Lib.hid (fun (h : (walkF ns f k (part ++ [UInt8.ofNat c]) out1).2 = true) => walkF_few ns f k (part ++ [UInt8.ofNat c]) out1 h)
          generalize walkF ns f k (part ++ [UInt8.ofNat c]) out1 = X at *
          obtain ⟨x1, x2⟩ := X
          have q2 : decide ((i : Int) ≤ k) = false := decide_eq_false (by omega)
          have q3 : IntKind.u8.wrap (c : Int) = c := by rw [IntKind.wrap_u8]; omega
          have hcv : (convert 123 9 (.slice (some ⟨wr.heap.size, 0, none⟩) 1 1)).run Try.prog (wr.alloc (.cells #[.int .u8 c] 5)) = .ok (.string (mkS [UInt8.ofNat c])) (wr.alloc (.cells #[.int .u8 c] 5)) := (OwnB.one (Nat.le_refl _) (x := (c : Int)) (UInt8.ofNat c) (by rw [UInt8.toNat_ofNat']; omega)).conv
          have hap := mkS_append part [UInt8.ofNat c]
          have hsz1 := mk_size [UInt8.ofNat c]
          have HBA := Lib.hid ((Below.refl wr.heap.size wr).alloc (Nat.le_refl _) (.cells #[.int .u8 c] 5))
          obtain ⟨b0, b1, -, -⟩ := RB.out.c2
          clear KWc e1 e2
          cases x2
          · have HD := Lib.hid (show (x1, false) = K0 from hd)
            clear hd HXL
            go_wp2_with (go_at_call 68; (with_reducible refine (KX.out sv1 _ _ (HS.out.below HBA.out) (HR.out.below HBA.out)).mono ?_); rintro e w4 ⟨sv4, rfl, hs4, hk4, hf4⟩)
            go_ret
            rw [← HD.out]
            exact ⟨sv4, rfl, hs4, (AK1.out.same (AK.ofBelow HBA.out)).transF hk4 F1.out, F1.out.trans (fun g e => (hf4 g e).imp id (fun h => Nat.le_trans HBA.out.size h)) AK1.out.size⟩
          · have HK2 := Lib.hid (show kidsW (walkF ns f) i part (n.kids.drop (c + 1)) (c + 1) x1 = K0 from hd)
            have hl2 : x1.length ≤ 64 := HXL.out rfl hl1
            clear hd HXL b0 b1
            obtain ⟨b0, b1, -, -⟩ := RB.out.c2
            go_wp2_with (go_at_call 68; (with_reducible refine (KX.out sv1 _ _ (HS.out.below HBA.out) (HR.out.below HBA.out)).mono ?_); rintro e w4 ⟨sv4, rfl, hs4, hk4, hf4⟩; have HS4 := Lib.hid hs4; have HF4 := Lib.hid (show Fr wr sv1 sv4 from fun g e => (hf4 g e).imp id (fun h => Nat.le_trans HBA.out.size h)); have HK4 := Lib.hid ((AK.ofBelow (ka := ko) (r := sv1.ownBlock) HBA.out).same hk4); clear hs4 hk4 hf4)
            exact ⟨⟨c + 1, x1, sv4, by omega, by simp, hl2, HK2, HS4, Lib.hid (HR.out.step HK4.out HF4.out), Lib.hid (RB.out.ak HK4.out HKB.out.1 B1.out), Lib.hid (AK1.out.transF HK4.out F1.out), Lib.hid (F1.out.trans HF4.out AK1.out.size), Lib.hid (HF4.out.ne RB.out.lt B1.out)⟩, by simp [intOf]; omega⟩
        · rw [if_neg e2] at hd
          have HD := Lib.hid hd
          have q2 : decide ((i : Int) ≤ k) = true := decide_eq_true (by omega)
          clear hd KWc e1 e2
          go_wp2
          go_ret
          rw [← HD.out]
          exact ⟨sv1, rfl, HS.out, AK1.out, F1.out⟩
    · obtain rfl : c = 16 := by omega
      have HD := Lib.hid (show (out1, true) = K0 from by
        have h := HK.out
        rw [List.drop_eq_nil_of_le (by rw [hkl.out]; exact Nat.le_refl _)] at h
        exact h)
      clear HK KW HKD HKA
      go_wp2
      go_ret
      rw [← HD.out]
      exact ⟨sv1, rfl, HS.out, AK1.out, F1.out⟩

theorem walk_all (ns : List Nd) (hns : ∀ n ∈ ns, n.kids.length = 16 ∧ n.part.length ≤ 140737488351232) : ∀ f : Nat, f ≤ 9223372036854775807 → WalkC ns f
  | 0, _ => fun ko u r i part out sv w hs hr hi hp ho => walk_no1 ns ko u r i part out sv w hs hr hp (by omega)
  | f + 1, hf => fun ko u r i part out sv w hs hr hi hp ho => by
    have ih := walk_all ns hns f (by omega)
    rw [walkF]
    by_cases h0 : i < 0
    · rw [if_pos h0]; exact walk_no1 ns ko u r i part out sv w hs hr hp h0
    · rw [if_neg h0]
      obtain ⟨j, rfl⟩ : ∃ j : Nat, i = j := ⟨i.toNat, by omega⟩
      rw [Int.toNat_natCast]
      cases hn : ns[j]? with
      | none =>
        rw [List.getElem?_eq_none_iff] at hn
        exact walk_no2 ns ko u r j part out sv w hs hr hp hn (by omega)
      | some n =>
        simp only
        have hj : j < ns.length := (List.getElem?_eq_some_iff.1 hn).1
        obtain ⟨hkl, hpn⟩ := hns n (List.mem_of_getElem? hn)
        by_cases h1 : 64 < part.length
        · rw [if_pos h1]; exact walk_no3 ns ko u r j part out sv w hs hr hp hj h1
        · rw [if_neg h1]
          by_cases h2 : n.kind = 1
          · rw [if_pos h2]; exact walk_leaf ns ko u r j n part out sv w hs hr (by omega) hn h2 hpn ho
          · rw [if_neg h2]
            by_cases h3 : n.kind = 2
            · rw [if_pos h3]
              by_cases h4 : n.kids.getD 0 0 < j
              · rw [if_pos h4]
                exact walk_joint ns ko u r j n part out sv w hs hr (by omega) hn h3 hpn _ h4 fun u W k1 k2 => ih ko u r _ _ out sv W k1 k2 (by omega) (by rw [List.length_append]; omega) ho
              · rw [if_neg h4]
                exact walk_jointN ns ko u r j n part out sv w hs hr (by omega) hn h3 h4
            · rw [if_neg h3]
              by_cases h5 : n.kind = 3
              · rw [if_pos h5]
                have KW : ∀ c, c < 16 → ∀ out1 : List Pr, out1.length ≤ 64 → n.kids.getD c 0 < j → ∀ sv1 u W, OS W ko sv1 out1 → ARN W ko sv1 u ns → Calls Try.prog 68 #[.agg #[u, .int .i64 r], .int .i64 (n.kids.getD c 0), .string (mkS (part ++ [UInt8.ofNat c])), fnY ko] W (FillAns ko sv1 (walkF ns f (n.kids.getD c 0) (part ++ [UInt8.ofNat c]) out1) W) :=
                  fun c hc out1 hl hlt sv1 u W k1 k2 => ih ko u r _ _ out1 sv1 W k1 k2 (by omega) (by rw [List.length_append, List.length_singleton]; omega) hl
                by_cases h6 : n.value = []
                · rw [if_pos h6]
                  exact walk_branchA ns ko u r j n part out sv w hs hr (by omega) hn f h5 hkl h6 ho KW
                · rw [if_neg h6]
                  by_cases h7 : (yieldL out part n.value).2 = true
                  · rw [if_pos h7]
                    exact walk_branchB ns ko u r j n part out sv w hs hr (by omega) hn f h5 hkl h6 ho h7 KW
                  · rw [if_neg h7]
                    exact walk_branchN ns ko u r j n part out sv w hs hr (by omega) hn h5 h6 ho (by simpa using h7)
              · rw [if_neg h5]
                exact walk_else ns ko u r j n part out sv w hs hr (by omega) hn h2 h3 h5
end Go.Proofs.Ytefmlbckbhlgdaa
namespace Go.Proofs.Ytefmlbckbhlgdaa
open Go.RowKit Go.Shelf
set_option maxRecDepth 100000
theorem layF_kids : ∀ (f : Nat) (l : List Pr) (ns : List Nd), (∀ n ∈ ns, n.kids.length = 16) → ∀ n ∈ (layF f l ns).1, n.kids.length = 16
  | 0, l, ns, h => by simpa [layF] using h
  | f + 1, [], ns, h => by simpa [layF] using h
  | f + 1, [p], ns, h => by
    rw [layF_one]
    intro n hn
    rcases List.mem_append.1 hn with hn | hn
    · exact h n hn
    · rw [List.mem_singleton.1 hn]; rfl
  | f + 1, p :: q :: r, ns, h => by
    by_cases hc : 0 < commonL (p :: q :: r)
    · rw [layF_joint hc]
      intro n hn
      rcases List.mem_append.1 hn with hn | hn
      · exact layF_kids f _ ns h n hn
      · rw [List.mem_singleton.1 hn]; simp [jointN, noKids]
    · rw [layF_branch hc]
      have hk : ∀ m, ∀ n ∈ (kidsF f (p :: q :: r) (List.range m) (ns, [])).1, n.kids.length = 16 := by
        intro m
        induction m with
        | zero => exact h
        | succ m ih =>
          rw [kidsF_range]
          exact layF_kids f _ _ ih
      intro n hn
      rcases List.mem_append.1 hn with hn | hn
      · exact hk 16 n hn
      · rw [List.mem_singleton.1 hn]
        show (kidsF f (p :: q :: r) (List.range 16) (ns, [])).2.length = 16
        rw [kidsF_map]; simp
theorem ofT_kids (l : List Pr) : ∀ n ∈ (ofT l).1, n.kids.length = 16 := layF_kids 200 (partsL l) [] (fun n h => by cases h)
theorem likeT_iff {la lb : List Nd} {ra rb : Int} (ha : ∀ n ∈ la, n.kids.length = 16) (hb : ∀ n ∈ lb, n.kids.length = 16) : likeT la ra lb rb = true ↔ (la, ra) = (lb, rb) := by
  unfold likeT
  rw [Bool.and_eq_true, beq_iff_eq, rowEq_iff fun x hx y hy => ndEq_iff (ha x hx) (hb y hy), Prod.mk.injEq, and_comm]
theorem likeT_dec {la : List Nd} {ra : Int} {t : List Nd × Int} (ha : ∀ n ∈ la, n.kids.length = 16) (hb : ∀ n ∈ t.1, n.kids.length = 16) : likeT la ra t.1 t.2 = @decide ((la, ra) = t) (Classical.propDecidable _) := by
  by_cases h : (la, ra) = t
  · rw [@decide_eq_true _ (Classical.propDecidable _) h]
    exact (likeT_iff ha hb).2 h
  · rw [@decide_eq_false _ (Classical.propDecidable _) h]
    exact Bool.eq_false_iff.2 fun e => h ((likeT_iff ha hb).1 e)

/-- Nodes as they come in. -/
structure NsOk (ns : List Nd) : Prop where
  kids : ∀ n ∈ ns, n.kids.length = 16
  part : ∀ n ∈ ns, n.part.length ≤ 140737488351232
  few : ns.length ≤ 140737488355328

def PairsAns (t : List Nd × Int) (w : World) (e : Ending) (w' : World) : Prop := ∃ v, e = .returned (.tuple #[v, .bool (pairsT t).2]) ∧ OP w' w.heap.size v (pairsT t).1 ∧ Below w.heap.size w w'

set_option maxHeartbeats 4000000 in
theorem pairs_none (ns : List Nd) (u : Value) (w : World) (h : RN w u ns) : Calls Try.prog 37 #[.agg #[u, .int .i64 (-1)]] w (PairsAns (ns, -1) w) := by
  obtain ⟨p, c, rfl, z1, z2⟩ := RowE.shape encN h
  have HD := Lib.hid (show (pairsT (ns, -1)) = ([], (ns.length : Int) == 0) from by
    unfold pairsT
    rw [if_pos rfl]
    congr 1
    by_cases e : ns = []
    · subst e; rw [@decide_eq_true _ (Classical.propDecidable _) rfl]; rfl
    · rw [@decide_eq_false _ (Classical.propDecidable _) e]
      have : ns.length ≠ 0 := fun h => e (List.eq_nil_of_length_eq_zero h)
      exact (beq_eq_false_iff_ne.2 (by omega)).symm)
  have HB := Lib.hid (((Below.refl w.heap.size w).alloc (Nat.le_refl _) (.cells #[.slice p ns.length c, .int .i64 (-1)] 37)).alloc (by simp) (.cells #[.slice none 0 0] 34))
  have R1 := ((RowAt.new w #[.slice p ns.length c, .int .i64 (-1)] 37).alloc (.cells #[.slice none 0 0] 34))
  have R2 := R1.drew
  obtain ⟨x0, x1, -, -⟩ := R1.c2
  clear h R1
  go_enter Try.func37, Try.ntmps37
  go_upto_region 3 with (fail)
  generalize (w.alloc (.cells #[.slice p ns.length c, .int .i64 (-1)] 37)).alloc (.cells #[.slice none 0 0] 34) = w1 at *
  replace R2 := Lib.hid R2
  clear x1
  (refine region_tail 5 mix ?hB ?_; case hB => kernel_rfl); (simp only [List.take_succ_cons, List.take_zero, List.drop_succ_cons, List.drop_zero]; (iterate 5 (with_reducible refine wpStill_step ?_; intro K hK; go_simp; with_reducible refine hK _ ?_; clear hK K)); with_reducible refine wpStill_nil ?_)
  go_wp2
  refine bodyPost_ret (v := .tuple #[.slice none 0 0, .bool ((ns.length : Int) == 0)]) (by simp [results, Try.results37, go_sem]) rfl ?_
  refine ⟨.slice none 0 0, by rw [HD.out], ?_, HB.out.drew⟩
  rw [HD.out]
  exact OwnE.nil encP _ _ _
end Go.Proofs.Ytefmlbckbhlgdaa
namespace Go.Proofs.Ytefmlbckbhlgdaa
open Go.RowKit
section
variable {P : Program} {ops : Array Oper} {md : Region.Mode} {C : World → Prop} {E : Nat → Bool}
/-- Reads (false) and effects (true), one behind the other. -/
def wpXI (P : Program) (ops : Array Oper) (C : World → Prop) (Q : Act → World → Prop) : List (Bool × Nat) → Act → World → Prop
  | [], a, w => Q a w
  | (false, i) :: is, a, w => match ops[i]? with
    | none => False
    | some o => ∃ v, YC P ops C o v a ∧ wpXI P ops C Q is (a.put o.dst v) w
  | (true, k) :: is, a, w => match ops[k]? with
    | none => False
    | some o => if Region.wanted o (yielded ops a.tmps) = true then EX P C o (wpXI P ops C Q is) a w else wpXI P ops C Q is (a.put o.dst undef) w
def itB (md : Region.Mode) (ops : Array Oper) (E : Nat → Bool) (g n : Nat) : List (Bool × Nat) → Array Bool → Bool
  | [], listed => Region.seqB md ops g n listed
  | (true, k) :: is, listed => (decide (Region.ready md ops listed = [k]) && decide (k < n) && E k) && itB md ops E g n is (listed.setIfInBounds k true)
  | (false, i) :: is, listed => ((Region.ready md ops listed).contains i && Region.free md ops listed i && decide (i < n) && !E i) && itB md ops E g n is (listed.setIfInBounds i true)

theorem wpHeadX_items {n g : Nat} {Lq : Act → World → Prop} (hsel : Region.noSelect ops = true) (hs : Region.sinkB md ops n = true) (hc : Region.chainB md ops n = true) (hn : n < ops.size) :
    ∀ (its : List (Bool × Nat)) (listed : Array Bool) (a : Act) (w : World), HeadInv md ops n listed → itB md ops E g n its listed = true → wpXI P ops C Lq its a w →
      wpHeadX P md ops C E n (fun listed' a' w' => Region.seqB md ops g n listed' = true ∧ Lq a' w') its.length listed a w
  | [], listed, a, w, _, hB, h => ⟨by simpa [itB] using hB, h⟩
  | (true, k) :: its, listed, a, w, inv, hB, h => by
    simp only [itB, Bool.and_eq_true, decide_eq_true_eq] at hB
    obtain ⟨⟨⟨hr, hkn⟩, hE⟩, hB'⟩ := hB
    have hkr : k ∈ Region.ready md ops listed := by rw [hr]; exact List.mem_singleton.2 rfl
    rw [List.length_cons]
    refine ⟨by rw [hr]; simp, fun i hi => ?_⟩
    rw [hr] at hi
    obtain rfl := List.mem_singleton.1 hi
    refine ⟨hkn, ?_⟩
    have ih := fun a' w' (h' : wpXI P ops C Lq its a' w') => wpHeadX_items hsel hs hc hn its _ a' w' (inv.set hkr hkn) hB' h'
    unfold wpXI at h
    unfold xOp
    cases ho : ops[i]? with
    | none => rw [ho] at h; exact absurd h (by simp)
    | some o =>
      rw [ho] at h
      simp only at h ⊢
      rw [if_pos hE]
      by_cases hw : Region.wanted o (yielded ops a.tmps) = true
      · rw [if_pos hw] at h ⊢
        exact h.mono ih
      · rw [if_neg hw] at h ⊢
        exact ih _ _ h
  | (false, i) :: its, listed, a, w, inv, hB, h => by
    simp only [itB, Bool.and_eq_true, decide_eq_true_eq, Bool.not_eq_true'] at hB
    obtain ⟨⟨⟨⟨hr, hf⟩, hin⟩, hE⟩, hB'⟩ := hB
    have hr' : i ∈ Region.ready md ops listed := by simpa using hr
    unfold wpXI at h
    cases ho : ops[i]? with
    | none => rw [ho] at h; exact absurd h (by simp)
    | some o =>
      rw [ho] at h
      simp only at h
      obtain ⟨v, hy, hK⟩ := h
      rw [List.length_cons]
      exact wpHeadX_first ho hE (Region.noSelect_spec hsel) hs hc hn hin (fun listed' a' w' hL => seqB_ready hL.1) its.length listed a w inv (Region.free_spec ho hf) hr' hy
        (wpHeadX_items hsel hs hc hn its _ _ w (inv.set hr' hin) hB' hK)
end
/-- The whole check. -/
def itemsOk (l : List Oper) (its : List (Bool × Nat)) (n : Nat) : Bool :=
  Region.noSelect l.toArray && decide (n < l.toArray.size) && Region.sinkB .any l.toArray n && Region.chainB .any l.toArray n && decide (its.length = n) &&
    itB .any l.toArray (fun k => its.contains (true, k)) (l.toArray.size - n) n its (Array.replicate l.toArray.size false)
theorem region_items {P : Program} {id : Nat} {Q : Exit → Act → World → Prop} {a : Act} {w : World} {l : List Oper} (its : List (Bool × Nat)) (n : Nat) (C : World → Prop) (hm : P.follows .mixedOrders = true) (hB : itemsOk l its n = true)
    (hC : C { w with drawn := w.drawn + 1 })
    (h : wpXI P l.toArray C (fun a w => wpList P l.toArray Q (l.drop n) a w) its a { w with drawn := w.drawn + 1 }) : (Code.region id l.toArray true).wp P Q a w := by
  simp only [itemsOk, Bool.and_eq_true, decide_eq_true_eq] at hB
  obtain ⟨⟨⟨⟨⟨hsel, hn⟩, hs⟩, hc⟩, hlen⟩, hord⟩ := hB
  have hdl : (l.drop n).length = l.toArray.size - n := by simp
  have inv0 : HeadInv .any l.toArray n (Array.replicate l.toArray.size false) :=
    ⟨by simp, fun j oj _ hl => (by rw [getD_replicate_false] at hl; cases hl), fun t _ ht => getD_in (by simpa using ht) (getD_replicate_false _ _)⟩
  have H := wpHeadX_items (md := .any) (C := C) (E := fun k => its.contains (true, k)) (g := l.toArray.size - n) (n := n) (Lq := fun a' w' => wpList P l.toArray Q (l.drop n) a' w') hsel hs hc hn its _ a { w with drawn := w.drawn + 1 } inv0 hord h
  refine wp_region_any hm ?_
  have := wpAny_of_headX (Q' := Q) (C := C) (g := l.toArray.size - n) (fun listed a' w' hL => by
    have := wpAny_of_seq (md := .any) (Q' := Q) (l.drop n) n listed a' w' (fun j => by simp [List.getElem?_drop]) (by rw [hdl]; exact hL.1) hL.2
    rwa [hdl] at this) _ _ _ { w with drawn := w.drawn + 1 } hC H
  rw [hlen, show n + (l.toArray.size - n) = l.toArray.size by omega] at this
  exact this

section
variable {P : Program} {ops : Array Oper} {C : World → Prop}
theorem xi_nil {Q : Act → World → Prop} {a : Act} {w : World} (h : Q a w) : wpXI P ops C Q [] a w := h
theorem xi_read {Q : Act → World → Prop} {a : Act} {w : World} {i : Nat} {is : List (Bool × Nat)}
    (h : ∃ o, ops[i]? = some o ∧ ∀ K : Act → Prop, (∀ a, wpXI P ops C Q is a w → K a) → if Region.wanted o (yielded ops a.tmps) then (∃ v, (∀ u : InC C, o.quietAt P a (fun w' => w' = u.w) u.w v) ∧ K (a.put o.dst v)) else K (a.put o.dst undef)) : wpXI P ops C Q ((false, i) :: is) a w := by
  obtain ⟨o, hi, h⟩ := h
  have := h _ (fun _ h => h)
  unfold wpXI YC
  rw [hi]
  simp only
  split at this
  · rename_i hw
    obtain ⟨v, h1, h2⟩ := this
    exact ⟨v, .inl ⟨hw, h1⟩, h2⟩
  · rename_i hw
    exact ⟨_, .inr ⟨by simpa using hw, rfl⟩, this⟩
theorem xi_eff {Q : Act → World → Prop} {a : Act} {w : World} {k : Nat} {es : List (Bool × Nat)}
    (h : ∃ o, ops[k]? = some o ∧ ∀ K : Act → World → Prop, (∀ a w, wpXI P ops C Q es a w → K a w) → if Region.wanted o (yielded ops a.tmps) then EX P C o K a w else K (a.put o.dst undef) w) : wpXI P ops C Q ((true, k) :: es) a w := by
  obtain ⟨o, hk, h⟩ := h
  have := h _ (fun _ _ h => h)
  unfold wpXI
  rw [hk]
  simp only
  split at this
  · rename_i hw; rw [if_pos hw]; exact this
  · rename_i hw; rw [if_neg hw]; exact this
end
end Go.Proofs.Ytefmlbckbhlgdaa
namespace Go.Proofs.Ytefmlbckbhlgdaa
open Go.RowKit Go.Shelf
set_option maxRecDepth 100000
/-- What the walk finds. -/
def outW (ns : List Nd) (r : Int) : List Pr × Bool := walkF ns (ns.length + 1) r [] []
theorem walk_root (ns : List Nd) (hns : NsOk ns) (ko : Nat) (u : Value) (r : Int) (sv : Value) (w : World) (hr2 : r ≤ 9223372036854775807) (hs : OS w ko sv []) (hr : ARN w ko sv u ns) :
    Calls Try.prog 68 #[.agg #[u, .int .i64 r], .int .i64 r, .string (mkS []), fnY ko] w (FillAns ko sv (outW ns r) w) := by
  have hf := hns.few
  by_cases h : r < (ns.length + 1 : Nat)
  · exact walk_all ns (fun n hn => ⟨hns.kids n hn, hns.part n hn⟩) (ns.length + 1) (by omega) ko u r r [] [] sv w hs hr h (by simp) (by simp)
  · have e : outW ns r = ([], false) := by
      unfold outW
      rw [walkF, if_neg (by omega), List.getElem?_eq_none (by omega)]
    rw [e]
    obtain ⟨j, rfl⟩ : ∃ j : Nat, r = j := ⟨r.toNat, by omega⟩
    exact walk_no2 ns ko u j j [] [] sv w hs hr (by simp) (by omega) (by omega)

set_option maxHeartbeats 8000000 in
theorem pairs_some (ns : List Nd) (hns : NsOk ns) (u : Value) (r : Int) (w : World) (hr1 : r ≠ -1) (hr2 : r ≤ 9223372036854775807) (h : RN w u ns) : Calls Try.prog 37 #[.agg #[u, .int .i64 r]] w (PairsAns (ns, r) w) := by
  obtain ⟨p, c, rfl, z1, z2⟩ := RowE.shape encN h
  have HP := Lib.hid (show pairsT (ns, r) = ((outW ns r).1, (outW ns r).2 && likeT ns r (ofT (outW ns r).1).1 (ofT (outW ns r).1).2) from by
    unfold pairsT
    rw [if_neg hr1, likeT_dec hns.kids (ofT_kids _)]
    rfl)
  have KW := Lib.hid (fun W (h1 : OS W (w.heap.size + 1) (.slice none 0 0) []) (h2 : ARN W (w.heap.size + 1) (.slice none 0 0) (.slice p ns.length c) ns) => walk_root ns hns (w.heap.size + 1) (.slice p ns.length c) r (.slice none 0 0) W hr2 h1 h2)
  replace KW : Hid (∀ W, OS W (w.heap.size + 1) (.slice none 0 0) [] → ARN W (w.heap.size + 1) (.slice none 0 0) (.slice p ns.length c) ns → Calls Try.prog 68 #[.agg #[.slice p ns.length c, .int .i64 r], .int .i64 r, .string ⟨#[]⟩, fnY (w.heap.size + 1)] W (FillAns (w.heap.size + 1) (.slice none 0 0) (outW ns r) W)) := KW
  have HPW := Lib.hid (show (outW ns r).2 = true → Pairs (outW ns r).1 from fun h => walk_pairs hns.kids h)
  generalize outW ns r = x at *
  obtain ⟨out, is⟩ := x
  simp only at HP HPW
  have HB := Lib.hid (((Below.refl w.heap.size w).alloc (Nat.le_refl _) (.cells #[.slice p ns.length c, .int .i64 r] 37)).alloc (by simp) (.cells #[.slice none 0 0] 34))
  have R1 := Lib.hid ((RowAt.new w #[.slice p ns.length c, .int .i64 r] 37).alloc (.cells #[.slice none 0 0] 34))
  have HS := Lib.hid (show OS ((w.alloc (.cells #[.slice p ns.length c, .int .i64 r] 37)).alloc (.cells #[.slice none 0 0] 34)) (w.heap.size + 1) (.slice none 0 0) [] from ⟨RowAt.new' _ _ _ (by simp), OwnE.nil encP _ _ _⟩)
  have HR := Lib.hid (show ARN ((w.alloc (.cells #[.slice p ns.length c, .int .i64 r] 37)).alloc (.cells #[.slice none 0 0] 34)) (w.heap.size + 1) (.slice none 0 0) (.slice p ns.length c) ns from by
    refine ⟨RN.below h HB.out (Nat.le_refl _), ?_⟩
    by_cases hn : ns = []
    · exact .inl hn
    · refine .inr fun b e => ⟨fun e2 => ?_, by simp [Value.ownBlock]⟩
      have := RN.blk h hn b e
      omega)
  have hrb : (r == -1) = false := beq_eq_false_iff_ne.2 hr1
  obtain ⟨x0, x1, -, -⟩ := R1.out.c2
  clear h hr1
  go_enter Try.func37, Try.ntmps37
  go_upto_region 4 with (fail)
  generalize (w.alloc (.cells #[.slice p ns.length c, .int .i64 r] 37)).alloc (.cells #[.slice none 0 0] 34) = w1 at *
  go_upto_region 5 with (go_at_call 68; (with_reducible refine (KW.out w1 HS.out HR.out).mono ?_); rintro e w2 ⟨sv2, rfl, hs2, hk2, hf2⟩; have HS2 := Lib.hid hs2; have HK2 := Lib.hid hk2; have HR2 := Lib.hid (HR.out.step hk2 hf2); clear hs2 hk2 hf2)
  have RB := Lib.hid (R1.out.ak HK2.out (by omega) (by simp [Value.ownBlock]))
  have HBW := Lib.hid (HK2.out.below HB.out HB.out.size (Nat.le_succ _) (fun g e => by simp [Value.ownBlock] at e))
  clear x0 x1 HS HR R1 HK2 HB KW
  obtain ⟨q, cq, rfl, z3, z4⟩ := OP.shape HS2.out.2
  have b0 : ∀ u : InC (LaterC w2.drew), u.w.cell? ⟨w.heap.size, 0, none⟩ = some (.slice p ns.length c) := (RB.out.drew.ic2).1
  have b1 : ∀ u : InC (LaterC w2.drew), u.w.cell? ⟨w.heap.size, 1, none⟩ = some (.int .i64 r) := (RB.out.drew.ic2).2
  have d0 : ∀ u : InC (LaterC w2.drew), u.w.cell? ⟨w.heap.size + 1, 0, none⟩ = some (.slice q out.length cq) := fun u => (HS2.out.1.drew.inC u).cell 0
  cases is
  · have hp2 := Lib.hid (show pairsT (ns, r) = (out, false) from HP.out)
    (refine region_items [(false, 0), (false, 1), (false, 2), (false, 3), (false, 4), (true, 5), (true, 6), (false, 7), (false, 8)] 9 (LaterC w2.drew) mix ?hB ?hC ?_; case hB => kernel_rfl); (case hC => (exact Below.refl _ _)); ((with_reducible refine xi_read ?_); (refine ⟨_, rfl, ?_⟩); intro K hK; go_simp; (with_reducible refine hK _ ?_); clear hK K); ((with_reducible refine xi_read ?_); (refine ⟨_, rfl, ?_⟩); intro K hK; go_simp; (with_reducible refine hK _ ?_); clear hK K); ((with_reducible refine xi_read ?_); (refine ⟨_, rfl, ?_⟩); intro K hK; go_simp; (with_reducible refine hK _ ?_); clear hK K); ((with_reducible refine xi_read ?_); (refine ⟨_, rfl, ?_⟩); intro K hK; go_simp; (with_reducible refine hK _ ?_); clear hK K); ((with_reducible refine xi_read ?_); (refine ⟨_, rfl, ?_⟩); intro K hK; go_simp; (with_reducible refine hK _ ?_); clear hK K); ((with_reducible refine xi_eff ?_); (refine ⟨_, rfl, ?_⟩); intro K hK; unfold EX; go_simp; (with_reducible refine hK _ _ ?_; clear hK K)); ((with_reducible refine xi_eff ?_); (refine ⟨_, rfl, ?_⟩); intro K hK; unfold EX; go_simp; (with_reducible refine hK _ _ ?_; clear hK K)); ((with_reducible refine xi_read ?_); (refine ⟨_, rfl, ?_⟩); intro K hK; go_simp; (with_reducible refine hK _ ?_); clear hK K); ((with_reducible refine xi_read ?_); (refine ⟨_, rfl, ?_⟩); intro K hK; go_simp; (with_reducible refine hK _ ?_); clear hK K); (with_reducible refine xi_nil ?_); (simp only [List.drop_succ_cons, List.drop_zero])
    clear b0 b1 d0
    go_wp2
    refine bodyPost_ret (v := .tuple #[.slice q out.length cq, .bool false]) (by simp [results, Try.results37, go_sem]) rfl ?_
    refine ⟨.slice q out.length cq, by rw [hp2.out], ?_, HBW.out.drew⟩
    rw [hp2.out]
    exact OwnE.mono encP (HS2.out.2.below (Below.refl w2.heap.size w2).drew (Nat.le_refl _)) (by omega)
  · have hpw := HPW.out rfl
    have KO := Lib.hid (fun W (h : RP W (.slice q out.length cq) out) => trieOf_any out (.slice q out.length cq) W h hpw.1 (by have := hpw.2.2; omega) (fun x hx => by have := mayP_len (hpw.2.1 x hx); omega))
    have hp2 := Lib.hid (show pairsT (ns, r) = (out, likeT ns r (ofT out).1 (ofT out).2) from HP.out)
    generalize ofT out = t at *
    obtain ⟨ms, ix⟩ := t
    have KS := Lib.hid (fun u W (h1 : RN W (.slice p ns.length c) ns) (h2 : RN W u ms) => same_any ns ms r ix (.slice p ns.length c) u W h1 h2)
    simp only at hp2
    generalize likeT ns r ms ix = b at *
    have HRO := Lib.hid (show RP w2 (.slice q out.length cq) out from OwnE.row encP HS2.out.2)
    have HRN := Lib.hid HR2.out.1
    clear hpw HPW HP
    (refine region_items [(false, 0), (false, 1), (false, 2), (false, 3), (false, 4), (true, 5), (true, 6), (false, 7), (false, 8)] 9 (LaterC w2.drew) mix ?hB ?hC ?_; case hB => kernel_rfl); (case hC => (exact Below.refl _ _)); ((with_reducible refine xi_read ?_); (refine ⟨_, rfl, ?_⟩); intro K hK; go_simp; (with_reducible refine hK _ ?_); clear hK K); ((with_reducible refine xi_read ?_); (refine ⟨_, rfl, ?_⟩); intro K hK; go_simp; (with_reducible refine hK _ ?_); clear hK K); ((with_reducible refine xi_read ?_); (refine ⟨_, rfl, ?_⟩); intro K hK; go_simp; (with_reducible refine hK _ ?_); clear hK K); ((with_reducible refine xi_read ?_); (refine ⟨_, rfl, ?_⟩); intro K hK; go_simp; (with_reducible refine hK _ ?_); clear hK K); ((with_reducible refine xi_read ?_); (refine ⟨_, rfl, ?_⟩); intro K hK; go_simp; (with_reducible refine hK _ ?_); clear hK K); ((with_reducible refine xi_eff ?_); (refine ⟨_, rfl, ?_⟩); intro K hK; unfold EX; go_simp; (go_at_call 41; (with_reducible refine (KO.out _ (RP.below HRO.out (Below.refl w2.heap.size w2).drew (Nat.le_refl _))).mono ?_); rintro e w3 ⟨u3, rfl, hr3, hb3⟩; refine ⟨_, rfl, hb3, hK _ _ ?_⟩; clear hK K)); ((with_reducible refine xi_eff ?_); (refine ⟨_, rfl, ?_⟩); intro K hK; unfold EX; go_simp; (go_at_call 71; (with_reducible refine (KS.out u3 w3 (RN.below (RN.below HRN.out (Below.refl w2.heap.size w2).drew (Nat.le_refl _)) hb3 (Nat.le_refl _)) hr3).mono ?_); rintro e w4 ⟨rfl, hb4⟩; have HB4 := hb3.trans (hb4.mono hb3.size); refine ⟨_, rfl, HB4, hK _ _ ?_⟩; clear hK K)); ((with_reducible refine xi_read ?_); (refine ⟨_, rfl, ?_⟩); intro K hK; go_simp; (with_reducible refine hK _ ?_); clear hK K); ((with_reducible refine xi_read ?_); (refine ⟨_, rfl, ?_⟩); intro K hK; go_simp; (with_reducible refine hK _ ?_); clear hK K); (with_reducible refine xi_nil ?_); (simp only [List.drop_succ_cons, List.drop_zero])
    have HBD := (Below.refl w2.heap.size w2).drew
    have HB5 := HBD.trans (HB4.mono HBD.size)
    clear b0 b1 d0
    go_wp2
    refine bodyPost_ret (v := .tuple #[.slice q out.length cq, .bool b]) (by simp [results, Try.results37, go_sem]) rfl ?_
    refine ⟨.slice q out.length cq, by rw [hp2.out], ?_, HBW.out.trans (HB5.mono HBW.out.size)⟩
    rw [hp2.out]
    exact OwnE.mono encP (HS2.out.2.below HB5 (Nat.le_refl _)) (by omega)
theorem pairs_any (ns : List Nd) (hns : NsOk ns) (u : Value) (r : Int) (w : World) (hr2 : r ≤ 9223372036854775807) (h : RN w u ns) : Calls Try.prog 37 #[.agg #[u, .int .i64 r]] w (PairsAns (ns, r) w) := by
  by_cases h1 : r = -1
  · subst h1; exact pairs_none ns u w h
  · exact pairs_some ns hns u r w h1 hr2 h
end Go.Proofs.Ytefmlbckbhlgdaa
namespace Go.Proofs.Ytefmlbckbhlgdaa
open Go.RowKit
/-- 'copy' into a row that may be written, whatever the size of an element. -/
theorem run_copy_k (w : World) (dT sT ty elem : TypeId) (i0 : TypeInfo) (k : Nat) (g o dLen dCap : Nat) (a : Addr) (sLen sCap : Nat) (cur : Array Value) (t : TypeId) (cs : List Value)
    (hu : Try.prog.underlying dT = some (.slice elem)) (hi : Try.prog.info? elem = some i0) (hk : i0.size = k)
    (hg : w.heap[g]? = some (.cells cur t (0, 0))) (hn : cs.length = Nat.min sLen dLen * k)
    (hsrc : ∀ j v, cs[j]? = some v → w.cell? (a.add j) = some v) (hfit : o + cs.length ≤ cur.size) (h1 : ∀ v ∈ cs, v.oneCell' = true) :
    (Builtin.copy_ #[dT, sT] ty #[.slice (some ⟨g, o, none⟩) dLen dCap, .slice (some a) sLen sCap]).run Try.prog w =
      .ok (goInt (Nat.min sLen dLen)) (w.setRow g (cur.toList.take o ++ cs ++ cur.toList.drop (o + cs.length)).toArray) := by
  have hl := run_loadCells_list (P := Try.prog) w a cs hsrc
  have hst := run_storeCells_at Try.prog g o t cs 0 cur w hg (by simpa using hfit) h1
  simp [Builtin.copy_, run_underlying hu, Builtin.lenOf, Builtin.firstCells, sizeOf, typeInfo, hi, hk, ← hn, hl, hst]

theorem wpList_copy_k {ops : Array Oper} {rest : List Oper} {o : Oper} {a : Act} {Q : Exit → Act → World → Prop} {w : World} (hgd : o.guard = Option.none) (d s : Operand) (t t' : TypeId)
    (ho : o.op = .call { callee := .builtin .copy, args := #[d, s], argTypes := #[t, t'] }) (v u : Value) (hd : a.eval d = v) (hs : a.eval s = u) (v' : Value) (w' : World)
    (hr : (Builtin.copy_ #[t, t'] o.type #[v, u]).run Try.prog w = .ok v' w') (h : wpList Try.prog ops Q rest (a.put o.dst v') w') : wpList Try.prog ops Q (o :: rest) a w := by
  refine wpList_plain hgd fun _ hK => ?_
  unfold Oper.wp execOp
  simp only [ho, resolve, invoke, builtin, Sem.run_bind, Sem.run_pure, Result.andThen_ok, List.map_toArray, List.map_cons, List.map_nil, hd, hs, hr]
  exact hK _ _ h

/-- append(s[:i], make([]T, n)...) where there is no room: a new row. -/
theorem run_append_grow_zeros (w : World) (t tn ty e : TypeId) (i : TypeInfo) (z : Value) (k kn : IntKind) (ht : Try.prog.underlying t = some (.slice e)) (htn : Try.prog.underlying tn = some (.int kn)) (hi : Try.prog.info? e = some i) (hz : i.zero = some z)
    (b : Addr) (sLen sCap : Nat) (olds : List Value) (hlo : olds.length = sLen * i.size) (holds : ∀ j v, olds[j]? = some v → w.cell? (b.add j) = some v)
    (n : Nat) (h0 : 0 < n) (hs : 0 < i.size) (hg : sCap < sLen + n) (h63 : (sLen + n : Nat) ≤ 1000000000) (hby : i.bytes ≤ 100) :
    (Builtin.append_ #[t, tn] ty #[.slice (some b) sLen sCap, .int k n]).run Try.prog w =
      .ok (.slice (some ⟨w.heap.size, 0, none⟩) (sLen + n) (grownCap w (sLen + n) sCap e)) (w.drew.alloc (.cells (olds.toArray ++ Builtin.zeroCells z.cells n ++ Builtin.zeroCells z.cells (grownCap w (sLen + n) sCap e - (sLen + n))) e)) := by
  have hn : n ≠ 0 := by omega
  have hroom : ¬ (sLen + n ≤ sCap) := by omega
  have hw : IntKind.i64.wrap (n : Int) = n := by rw [IntKind.wrap_i64]; omega
  have h63' : ¬ (9223372036854775807 < (sLen : Int) + (n : Int)) := by omega
  have hmul : (sLen + n) * i.bytes ≤ 140737488355328 := Nat.le_trans (Nat.mul_le_mul h63 hby) (by omega)
  have h48' : ¬ (281474976710656 < Builtin.nextslicecap (sLen + n) sCap * i.bytes) := by have := growslice_fits hg hmul; omega
  have hmul2 : n * i.bytes ≤ 140737488355328 := Nat.le_trans (Nat.mul_le_mul_right _ (by omega)) hmul
  have h48i : ¬ (281474976710656 < (n : Int) * (i.bytes : Int)) := by
    rw [← Int.natCast_mul]
    omega
  have hneg : ¬ ((n : Int) < 0) := by omega
  have hns : ¬ (n * i.size = 0) := Nat.mul_ne_zero hn (by omega)
  have hl := run_firstCells_some (P := Try.prog) w.drew i.size sLen b sLen sCap olds hlo holds
  simp [Builtin.append_, run_underlying ht, run_underlying htn, sizeOf, typeInfo, zeroValue, hi, hz, asInt, asIntOf, hw, hneg, hns, hroom, h63', h48', h48i, Question.forced, hl, newRow, grownCap]

theorem put_take (c0 y z : List Value) (o : Nat) (h : o + y.length + z.length ≤ c0.length) :
    ((((c0.take o ++ y ++ c0.drop (o + y.length)).take (o + y.length)) ++ z ++ (c0.take o ++ y ++ c0.drop (o + y.length)).drop (o + y.length + z.length)).take (o + y.length + z.length)) = c0.take o ++ y ++ z := by
  have h1 : (c0.take o ++ y).length = o + y.length := by rw [List.length_append, List.length_take]; omega
  have e1 : (c0.take o ++ y ++ c0.drop (o + y.length)).take (o + y.length) = c0.take o ++ y := by rw [← h1, List.take_left]
  rw [e1]
  have h2 : (c0.take o ++ y ++ z).length = o + y.length + z.length := by rw [List.length_append, h1]
  rw [← h2, List.take_left]

theorem put_take2 (c0 y z : List Value) (o : Nat) (h : o + y.length + z.length ≤ c0.length) :
    (((c0.take (o + y.length) ++ z ++ c0.drop (o + y.length + z.length)).take o ++ y ++ (c0.take (o + y.length) ++ z ++ c0.drop (o + y.length + z.length)).drop (o + y.length)).take (o + y.length + z.length)) = c0.take o ++ y ++ z := by
  have h1 : (c0.take (o + y.length)).length = o + y.length := by rw [List.length_take]; omega
  have e1 : (c0.take (o + y.length) ++ z ++ c0.drop (o + y.length + z.length)).drop (o + y.length) = z ++ c0.drop (o + y.length + z.length) := by
    rw [List.append_assoc]
    exact List.drop_left' h1
  have e2 : (c0.take (o + y.length) ++ z ++ c0.drop (o + y.length + z.length)).take o = c0.take o := by
    rw [List.append_assoc, List.take_append_of_le_length (by omega), List.take_take, Nat.min_eq_left (by omega)]
  rw [e1, e2]
  have h2 : (c0.take o ++ y ++ z).length = o + y.length + z.length := by rw [List.length_append, List.length_append, List.length_take]; omega
  rw [← List.append_assoc, ← h2, List.take_left]

theorem setRow_bel (w : World) (g B : Nat) (c : Array Value) (h : B ≤ g) : Below B w (w.setRow g c) :=
  ⟨rfl, rfl, rfl, by simp [World.setRow], fun k hk => setRow_other w g k _ (by omega)⟩

end Go.Proofs.Ytefmlbckbhlgdaa
namespace Go.Proofs.Ytefmlbckbhlgdaa
open Go.RowKit
/-- 'clear' of a row that may be written, whatever the size of an element. -/
theorem run_clear_k (w : World) (t e ty : TypeId) (z : Value) (g o n c : Nat) (cur : Array Value) (ht : Try.prog.underlying t = some (.slice e)) (hv : ∀ w, (zeroValue e).run Try.prog w = .ok z w) (h1 : ∀ u ∈ (Builtin.zeroCells z.cells n).toList, u.oneCell' = true)
    (hn : 0 < n) (hg : w.heap[g]? = some (.cells cur e (0, 0))) (hfit : o + (Builtin.zeroCells z.cells n).size ≤ cur.size) :
    (Builtin.clear_ #[t] ty #[.slice (some ⟨g, o, none⟩) n c]).run Try.prog w = .ok (.tuple #[]) (w.setRow g (cur.toList.take o ++ (Builtin.zeroCells z.cells n).toList ++ cur.toList.drop (o + (Builtin.zeroCells z.cells n).size)).toArray) := by
  have hst := run_storeCells_at Try.prog g o e (Builtin.zeroCells z.cells n).toList 0 cur w hg (by simpa using hfit) h1
  obtain ⟨m, rfl⟩ : ∃ m, n = m + 1 := ⟨n - 1, by omega⟩
  simp only [Nat.add_zero] at hst
  simp [Builtin.clear_, run_underlying ht, hv, hst]

end Go.Proofs.Ytefmlbckbhlgdaa

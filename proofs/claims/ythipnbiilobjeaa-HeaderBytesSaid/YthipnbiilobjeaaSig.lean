/- Header: Bytes; a header that may be. Header, the plain side: a header's fields as an item; how long its bytes are. Header: the laws' own call that must answer. Header: two signatures compared. -/
import Derived.Test.YthipnbiilobjeaaHr5
import Derived.Test.YthipnbiilobjeaaHr3
import Derived.Laws.StructEq
namespace Go.Proofs.Ythipnbiilobjeaa
open Go.RowKit Go.Shelf
set_option maxRecDepth 100000

/-- A header's bytes. -/
noncomputable def bytesL (h : Hd) : List UInt8 × Int := if hdL h = true then recL h else ([], 1)

theorem hdL_lens {h : Hd} (e : hdL h = true) : h.val.length ≤ 1000 ∧ h.se.length ≤ 1000 := by
  have : HdOk h := by
    by_cases hh : HdOk h
    · exact hh
    · rw [hdL_false hh] at e; cases e
  obtain ⟨_, _, _, _, _, h1, h2, _⟩ := this
  have := h1.2.2
  exact ⟨by omega, by omega⟩

set_option maxHeartbeats 2000000 in
theorem bytes_any (h : Hd) (sv gv : Value) (w : World) (hh : HdAt w h sv gv) (hn : HdNum h) (hl : h.val.length ≤ 1000000) : Calls Try.prog 17 #[.agg (hdc h sv gv)] w fun e w' => e = .returned (.tuple #[.string (mkS (bytesL h).1), .int .i64 (bytesL h).2]) ∧ Below w.heap.size w w' := by
  have KR : Hid (∀ W, Below w.heap.size w W → Calls Try.prog 23 #[.agg (hdc h sv gv)] W fun e w' => e = .returned (.bool (hdL h)) ∧ Below W.heap.size W w') := Lib.hid (fun W hb => hRight_any h sv gv W (hh.below hb) hl)
  have R := Lib.hid (RowAt.new w (hdc h sv gv) 36)
  have HB := Lib.hid (bel1 w (.cells (hdc h sv gv) 36))
  cases e : hdL h with
  | false =>
    have HR : Hid (bytesL h = ([], 1)) := Lib.hid (by unfold bytesL; rw [e]; rfl)
    rw [e] at KR
    generalize bytesL h = r at *
    clear e hh hn hl
    obtain ⟨pa, ht, ro, tx, pr, va, val, vo, ad, rd, se⟩ := h
    obtain ⟨x0, x1, x2, x3, x4, x5, x6, x7, x8, x9, x10⟩ := R.out.c11
    go_enter Try.func17, Try.ntmps17
    go_wp2_with (go_at_call 23; refine (KR.out _ HB.out).mono ?_; rintro e w1 ⟨rfl, hb⟩; have HB1 := Lib.hid (HB.out.trans (hb.mono HB.out.size)); clear hb)
    go_ret2
    rw [HR.out]
    exact ⟨rfl, HB1.out⟩
  | true =>
    have HR : Hid (bytesL h = recL h) := Lib.hid (by unfold bytesL; rw [e]; rfl)
    have hlen := hdL_lens e
    have KW : Hid (∀ W, Below w.heap.size w W → Calls Try.prog 45 #[.agg (hdc h sv gv)] W fun e w' => e = .returned (.tuple #[.string (mkS (recL h).1), .int .i64 (recL h).2]) ∧ Below W.heap.size W w') := Lib.hid (fun W hb => record_any h sv gv W (hh.below hb) hn hlen.1 hlen.2)
    rw [e] at KR
    generalize bytesL h = r at *
    generalize recL h = r2 at *
    clear e hh hn hl hlen
    obtain ⟨pa, ht, ro, tx, pr, va, val, vo, ad, rd, se⟩ := h
    obtain ⟨x0, x1, x2, x3, x4, x5, x6, x7, x8, x9, x10⟩ := R.out.c11
    go_enter Try.func17, Try.ntmps17
    go_wp2_with (first
      | (go_at_call 23; refine (KR.out _ HB.out).mono ?_; rintro e w1 ⟨rfl, hb⟩; have HB1 := Lib.hid (HB.out.trans (hb.mono HB.out.size)); have R1 := Lib.hid (R.out.belowS hb); clear hb x0 x1 x2 x3 x4 x5 x6 x7 x8 x9 x10; obtain ⟨x0, x1, x2, x3, x4, x5, x6, x7, x8, x9, x10⟩ := R1.out.c11)
      | (go_at_call 45; refine (KW.out _ HB1.out).mono ?_; rintro e w2 ⟨rfl, hb⟩; have HB2 := Lib.hid (HB1.out.trans (hb.mono HB1.out.size)); clear hb))
    go_ret2
    rw [HR.out]
    exact ⟨rfl, HB2.out⟩

/-! ### A header that may be -/
def zB (n : Nat) : ByteArray := mkS (List.replicate n 0)
def someH : Hd := ⟨zB 32, 0, zB 32, zB 32, zB 20, ⟨#[]⟩, [zB 20], ⟨#[]⟩, false, 0, []⟩
theorem zB_size (n : Nat) : (zB n).size = n := by unfold zB; rw [mkS_size, List.length_replicate]
theorem zB_cut : (zB 32).extract 0 20 = zB 20 := by decide
theorem someH_ok : HdOk someH := by
  refine ⟨zB_size 32, zB_size 32, zB_size 32, zB_size 20, by show (0 : Nat) ≤ 8; omega, ?_, by show (0 : Nat) ≤ 16; omega, .inr ⟨rfl, rfl⟩, fun s hs => by cases hs⟩
  refine ⟨fun j x hx => ?_, fun j x y hx hy => ?_, by show (1 : Nat) ≤ 1; omega, by show (1 : Nat) ≤ 16; omega⟩
  · match j, hx with
    | 0, hx => have : zB 20 = x := by simpa [someH] using hx
               rw [← this]; exact zB_size 20
    | j + 1, hx => simp [someH] at hx
  · simp [someH] at hy

theorem RowAt.other11 {w : World} {k b : Nat} {cs : Array Value} {T : TypeId} (h : RowAt w k cs T) (hne : k ≠ b) (v0 v1 v2 v3 v4 v5 v6 v7 v8 v9 v10 : Value) : RowAt (put11 w b 0 v0 v1 v2 v3 v4 v5 v6 v7 v8 v9 v10) k cs T :=
  ((((((((((h.other ⟨b, 0, none⟩ v0 hne).other ⟨b, 0 + 1, none⟩ v1 hne).other ⟨b, 0 + 2, none⟩ v2 hne).other ⟨b, 0 + 3, none⟩ v3 hne).other ⟨b, 0 + 4, none⟩ v4 hne).other ⟨b, 0 + 5, none⟩ v5 hne).other ⟨b, 0 + 6, none⟩ v6 hne).other ⟨b, 0 + 7, none⟩ v7 hne).other ⟨b, 0 + 8, none⟩ v8 hne).other ⟨b, 0 + 9, none⟩ v9 hne).other ⟨b, 0 + 10, none⟩ v10 hne
set_option maxHeartbeats 2000000 in
theorem some_any (w : World) : Calls Try.prog 46 #[] w (FewPost someH w) := by
  obtain ⟨i0, hi, hz0, hz1, hz2⟩ := info_parts info_u8
  have HH : Hid (someH = ⟨zB 32, 0, zB 32, zB 32, zB 20, ⟨#[]⟩, [zB 20], ⟨#[]⟩, false, 0, []⟩) := Lib.hid rfl
  generalize someH = h at *
  have R0 := Lib.hid (RowAt.new w #[.string ⟨#[]⟩, .int .u64 0, .string ⟨#[]⟩, .string ⟨#[]⟩, .string ⟨#[]⟩, .string ⟨#[]⟩, .slice none 0 0, .string ⟨#[]⟩, .bool false, .int .u64 0, .slice none 0 0] 36)
  have HB0 := Lib.hid (bel1 w (.cells #[.string ⟨#[]⟩, .int .u64 0, .string ⟨#[]⟩, .string ⟨#[]⟩, .string ⟨#[]⟩, .string ⟨#[]⟩, .slice none 0 0, .string ⟨#[]⟩, .bool false, .int .u64 0, .slice none 0 0] 36))
  go_enter Try.func46, Try.ntmps46
  go_upto_region 1 with (fail)
  generalize w.alloc (.cells #[.string ⟨#[]⟩, .int .u64 0, .string ⟨#[]⟩, .string ⟨#[]⟩, .string ⟨#[]⟩, .string ⟨#[]⟩, .slice none 0 0, .string ⟨#[]⟩, .bool false, .int .u64 0, .slice none 0 0] 36) = W at *
  go_wp2_with (at_make; (refine wpList_make_full _ rfl _ _ 117 rfl W.heap.size 5 i0 (.int .u8 0) 1 Try.underlying117 hi hz0 hz1 .i64 .i64 _ _ 32 rfl rfl rfl rfl (by rw [hz2]; omega) (by unfold maxLen; omega) (Nat.le_refl _) ?_); intro w1 hown hg)
  have hbuf := buf_made (fun _ => 0) hown
  have hcv := hbuf.conv 32 (by rw [fillL_length])
  have hz : (⟨(fillL (fun _ => 0) 32 0).toArray⟩ : ByteArray) = zB 32 := by decide
  rw [hz] at hcv
  have HCV := Lib.hid hcv
  have R1 := Lib.hid (RowAt.grown R0.out hg (by simp))
  have HB1 := Lib.hid (HB0.out.grown hg HB0.out.size (fun k hk => by cases hk))
  have hzs : (zB 32).size = 32 := zB_size 32
  have HZC := Lib.hid zB_cut
  clear hbuf hown hg hcv hz R0 HB0
  go_wp2_with (simp only [HCV.out, Result.andThen_ok])
  have R1a := Lib.hid (R1.out.drew.alloc (.cells #[.string (zB 20)] 9))
  have RS := Lib.hid (RowAt.new w1.drew #[.string (zB 20)] 9)
  have hd20 : (zB 32).extract 0 20 = zB 20 := HZC.out
  have HB2 := Lib.hid (HB1.out.alloc HB1.out.size (.cells #[.string (zB 20)] 9))
  have R1b := Lib.hid (R1.out.alloc (.cells #[.string (zB 20)] 9))
  obtain ⟨x0, x1, x2, x3, x4, x5, x6, x7, x8, x9, x10⟩ := R1b.out.c11
  obtain ⟨y0, y1, y2, y3, y4, y5, y6, y7, y8, y9, y10⟩ := R1b.out.f11
  obtain ⟨Ws, g0, g1, g2⟩ : ∃ Ws : Nat → World, Ws 0 = w1.drew ∧ Ws 1 = (w1.alloc (.cells #[.string (zB 20)] 9)).drew ∧ Ws 2 = (put11 (w1.alloc (.cells #[.string (zB 20)] 9)) w.heap.size 0 (.string (zB 32)) (.int .u64 0) (.string (zB 32)) (.string (zB 32)) (.string (zB 20)) (.string ⟨#[]⟩) (.slice (some ⟨w1.heap.size, 0, none⟩) 1 1) (.string ⟨#[]⟩) (.bool false) (.int .u64 0) (.slice none 0 0)).drew :=
    ⟨fun s => match s with | 0 => w1.drew | 1 => (w1.alloc (.cells #[.string (zB 20)] 9)).drew | _ => (put11 (w1.alloc (.cells #[.string (zB 20)] 9)) w.heap.size 0 (.string (zB 32)) (.int .u64 0) (.string (zB 32)) (.string (zB 32)) (.string (zB 20)) (.string ⟨#[]⟩) (.slice (some ⟨w1.heap.size, 0, none⟩) 1 1) (.string ⟨#[]⟩) (.bool false) (.int .u64 0) (.slice none 0 0)).drew, rfl, rfl, rfl⟩
  have G0 := Lib.hid g0
  have G1 := Lib.hid g1
  have G2 := Lib.hid g2
  clear g0 g1 g2
  (refine region_stages [7, 9] (fun k => 2) Ws mix ?hB G0.out ?_; case hB => kernel_rfl); ((with_reducible refine stg_step 2 ?hkk ?_); (case hkk => rfl); intro K hK; go_simp; (with_reducible refine hK _ ?_; clear hK K)); ((with_reducible refine stg_step 2 ?hkk ?_); (case hkk => rfl); intro K hK; go_simp; (with_reducible refine hK _ ?_; clear hK K)); ((with_reducible refine stg_step 2 ?hkk ?_); (case hkk => rfl); intro K hK; go_simp; (with_reducible refine hK _ ?_; clear hK K)); ((with_reducible refine stg_step 2 ?hkk ?_); (case hkk => rfl); intro K hK; go_simp; (with_reducible refine hK _ ?_; clear hK K)); ((with_reducible refine stg_step 2 ?hkk ?_); (case hkk => rfl); intro K hK; go_simp; (with_reducible refine hK _ ?_; clear hK K)); ((with_reducible refine stg_step 2 ?hkk ?_); (case hkk => rfl); intro K hK; go_simp; (with_reducible refine hK _ ?_; clear hK K)); ((with_reducible refine stg_step 2 ?hkk ?_); (case hkk => rfl); intro K hK; go_simp; (with_reducible refine hK _ ?_; clear hK K)); (refine stg_eff 0 (.slice (some ⟨w1.heap.size, 0, none⟩) 1 1) rfl (by decide) rfl ?he ?_; case he => (show effUpon (Ws 1) _ (Sem.run _ _ (Ws 0)); (rw [G1.out, G0.out]; unfold effUpon; go_simp))); go_simp; ((with_reducible refine stg_step 2 ?hkk ?_); (case hkk => rfl); intro K hK; go_simp; (with_reducible refine hK _ ?_; clear hK K)); (refine stg_eff 1 (undef) rfl (by decide) rfl ?he ?_; case he => (show effUpon (Ws 2) _ (Sem.run _ _ (Ws 1)); (rw [G2.out, G1.out]; unfold effUpon; go_simp))); go_simp; (with_reducible refine stg_nil ?_)
  clear x0 x1 x2 x3 x4 x5 x6 x7 x8 x9 x10 y0 y1 y2 y3 y4 y5 y6 y7 y8 y9 y10
  have RF := Lib.hid (show RowAt (Ws 2) w.heap.size #[.string (zB 32), .int .u64 0, .string (zB 32), .string (zB 32), .string (zB 20), .string ⟨#[]⟩, .slice (some ⟨w1.heap.size, 0, none⟩) 1 1, .string ⟨#[]⟩, .bool false, .int .u64 0, .slice none 0 0] 36 from by rw [G2.out]; exact (R1b.out.set11 (.string (zB 32)) (.int .u64 0) (.string (zB 32)) (.string (zB 32)) (.string (zB 20)) (.string ⟨#[]⟩) (.slice (some ⟨w1.heap.size, 0, none⟩) 1 1) (.string ⟨#[]⟩) (.bool false) (.int .u64 0) (.slice none 0 0)).drew)
  have RG := Lib.hid (show RowAt (Ws 2) w1.heap.size #[.string (zB 20)] 9 from by rw [G2.out]; exact RowAt.drew (RowAt.other11 (show RowAt (w1.alloc (.cells #[.string (zB 20)] 9)) w1.heap.size #[.string (zB 20)] 9 from RS.out) (by have := R1.out.lt; show w1.heap.size ≠ w.heap.size; omega) _ _ _ _ _ _ _ _ _ _ _))
  have HB3 := Lib.hid (show Below w.heap.size w (Ws 2) from by rw [G2.out]; exact Below.drew (below_set11 (b := w.heap.size) (o := 0) HB2.out (Nat.le_refl _) (.string (zB 32)) (.int .u64 0) (.string (zB 32)) (.string (zB 32)) (.string (zB 20)) (.string ⟨#[]⟩) (.slice (some ⟨w1.heap.size, 0, none⟩) 1 1) (.string ⟨#[]⟩) (.bool false) (.int .u64 0) (.slice none 0 0)))
  clear G0 G1 G2 R1 R1a R1b RS HB1 HB2
  go_wp2
  obtain ⟨k0, k1, k2, k3, k4, k5, k6, k7, k8, k9, k10⟩ := RF.out.c11
  refine bodyPost_ret (v := .agg #[.string (zB 32), .int .u64 0, .string (zB 32), .string (zB 32), .string (zB 20), .string ⟨#[]⟩, .slice (some ⟨w1.heap.size, 0, none⟩) 1 1, .string ⟨#[]⟩, .bool false, .int .u64 0, .slice none 0 0]) (by simp [results, Try.results46, go_sem, k0, k1, k2, k3, k4, k5, k6, k7, k8, k9, k10]) rfl ?_
  refine ⟨.slice (some ⟨w1.heap.size, 0, none⟩) 1 1, .slice none 0 0, by rw [HH.out], ⟨?_, ?_, ?_⟩, HB3.out⟩
  · rw [HH.out]
    exact RowE.lit encS RG.out (zB 20) rfl
  · rw [HH.out]
    exact .inl ⟨rfl, rfl⟩
  · rw [HH.out]
    exact fun s hs => by cases hs
end Go.Proofs.Ythipnbiilobjeaa

namespace Go.Proofs.Ythipnbiilobjeaa
open Go.RowKit
set_option maxRecDepth 100000

abbrev bI (s : ByteArray) : It := .mk false (bl s) []
abbrev nI (n : Nat) : It := .mk false (dig n) []
abbrev lI (l : List It) : It := .mk true [] l
def hkinds : List Kd := [.mk 104 [], .mk 110 [], .mk 104 [], .mk 104 [], .mk 97 [], .mk 98 [], .mk 42 [.mk 97 []], .mk 98 [], .mk 110 [], .mk 110 [], .mk 42 [.mk 115 []]]
theorem hkinds_ok : kindsL hform = some hkinds := by rfl
def hdI (h : Hd) : It := lI [bI h.pa, nI h.ht.toNat, bI h.ro, bI h.tx, bI h.pr, bI h.va, lI (h.val.map bI), bI h.vo, nI (if h.ad = true then 1 else 0), nI h.rd.toNat, lI ((h.se.map sealB).map bI)]

mutual
theorem write_le3 : ∀ x : It, x.weight ≤ 20000 → x.write.length ≤ x.weight + 2 * x.size
  | .mk l b ks, h => by
    rw [It.weight] at h ⊢
    rw [It.size]
    have hk := writes_le3 ks (by omega)
    have hs := sizes_le_weights ks
    rw [It.write]
    split
    · have := headL_length (fr := 192) (n := (writes ks).length) (by omega)
      rw [List.length_append, this]
      split <;> (try split) <;> omega
    · split
      · omega
      · have := headL_length (fr := 128) (n := b.length) (by omega)
        rw [List.length_append, this]
        split <;> (try split) <;> omega
theorem writes_le3 : ∀ ks : List It, weights ks ≤ 20000 → (writes ks).length ≤ weights ks + 2 * sizes ks
  | [], _ => by simp [writes]
  | k :: ks, h => by
    rw [weights] at h ⊢
    rw [sizes]
    have h1 := write_le3 k (by omega)
    have h2 := writes_le3 ks (by omega)
    rw [writes, List.length_append]
    omega
end
mutual
/-- Lists bear no bytes of their own. -/
theorem write_ge : ∀ x : It, x.pure → x.weight ≤ x.write.length + x.size
  | .mk l b ks, h => by
    rw [It.pure] at h
    obtain ⟨h1, h2, h3⟩ := h
    have hk := writes_ge ks h3
    rw [It.weight, It.size, It.write]
    split
    · rename_i hl
      rw [h1 hl, List.length_append]
      simp
      omega
    · rename_i hl
      obtain rfl := h2 (by simpa using hl)
      simp only [weights, sizes]
      split
      · omega
      · rw [List.length_append]; omega
theorem writes_ge : ∀ ks : List It, pures ks → weights ks ≤ (writes ks).length + sizes ks
  | [], _ => by simp [writes, weights]
  | k :: ks, h => by
    rw [pures] at h
    have h1 := write_ge k h.1
    have h2 := writes_ge ks h.2
    rw [weights, writes, sizes, List.length_append]
    omega
end

theorem sealB_size {s : Sg} (h : sigOk s = true) : (sealB s).size = 65 := by
  unfold sealB sigBytes
  rw [if_pos h]
  have h1 := bytesU_size s.1
  have h2 := bytesU_size s.2.1
  rw [ByteArray.size_append, ByteArray.size_append, h1, h2]
  rfl

theorem mapM_bI (c : UInt8) (hc : c ≠ 110 ∧ c ≠ 98 ∧ c ≠ 42 ∧ c ≠ 40) : ∀ l : List ByteArray, (∀ s ∈ l, (s.size : Int) = sizeK c) → (l.map bF).mapM (itemK (.mk c [])) = some (l.map bI)
  | [], _ => rfl
  | s :: l, h => by
    rw [List.map_cons, List.mapM_cons, mapM_bI c hc l (fun t ht => h t (by simp [ht]))]
    have : itemK (.mk c []) (bF s) = some (bI s) := by
      rw [itemK, if_neg hc.1, if_neg hc.2.1, if_neg hc.2.2.1, if_neg hc.2.2.2, if_pos ⟨rfl, rfl, by rw [bl_length]; exact h s (by simp)⟩]
    rw [this]
    rfl
theorem weights_bI : ∀ (N : Nat) (l : List ByteArray), (∀ s ∈ l, s.size = N) → weights (l.map bI) = (N + 1) * l.length ∧ sizes (l.map bI) = l.length ∧ pures (l.map bI) ∧ depths (l.map bI) = 0
  | N, [], _ => ⟨by simp [weights], rfl, trivial, rfl⟩
  | N, s :: l, h => by
    obtain ⟨h1, h2, h3, h4⟩ := weights_bI N l (fun t ht => h t (by simp [ht]))
    have hs := h s (by simp)
    refine ⟨?_, ?_, ?_, ?_⟩
    · rw [List.map_cons, weights, h1, It.weight, weights, bl_length, hs, List.length_cons, Nat.mul_add]; omega
    · rw [List.map_cons, sizes, h2, It.size, sizes, List.length_cons]; omega
    · rw [List.map_cons, pures]; exact ⟨by rw [It.pure]; exact ⟨by simp, by simp, trivial⟩, h3⟩
    · rw [List.map_cons, depths, h4, It.depth, depths]; rfl
theorem counts_bF : ∀ l : List ByteArray, counts (l.map bF) = l.length
  | [] => rfl
  | s :: l => by rw [List.map_cons, counts, counts_bF l, Tr.count, counts, List.length_cons]; omega
theorem SetOk.all {l : List ByteArray} (h : SetOk l) : ∀ s ∈ l, s.size = 20 := fun s hs => by
  obtain ⟨i, hi⟩ := List.getElem?_of_mem hs
  exact h.1 i s hi

theorem i_h {s : ByteArray} (h : s.size = 32) : itemK (.mk 104 []) (bF s) = some (bI s) := by
  rw [itemK, if_neg (by decide), if_neg (by decide), if_neg (by decide), if_neg (by decide), if_pos ⟨rfl, rfl, by rw [bl_length, h]; rfl⟩]
theorem i_a {s : ByteArray} (h : s.size = 20) : itemK (.mk 97 []) (bF s) = some (bI s) := by
  rw [itemK, if_neg (by decide), if_neg (by decide), if_neg (by decide), if_neg (by decide), if_pos ⟨rfl, rfl, by rw [bl_length, h]; rfl⟩]
theorem i_b {s : ByteArray} (h : s.size ≤ 64) : itemK (.mk 98 []) (bF s) = some (bI s) := by
  rw [itemK, if_neg (by decide), if_pos rfl, if_pos ⟨rfl, rfl, by rw [bl_length]; exact h⟩]
theorem i_n (n : Nat) : itemK (.mk 110 []) (nF n) = some (nI n) := by
  rw [itemK, if_pos rfl, if_pos ⟨rfl, rfl⟩]
theorem i_l {c : UInt8} (hc : c ≠ 110 ∧ c ≠ 98 ∧ c ≠ 42 ∧ c ≠ 40) {l : List ByteArray} (hl : l.length ≤ 40) (h : ∀ s ∈ l, (s.size : Int) = sizeK c) : itemK (.mk 42 [.mk c []]) (lF (l.map bF)) = some (lI (l.map bI)) := by
  rw [itemK, if_neg (by decide), if_neg (by decide), if_pos rfl, if_pos ⟨rfl, rfl, by simpa using hl⟩, starI, mapM_bI c hc l h]
  rfl
theorem vo_size {h : Hd} (hk : HdOk h) : h.vo.size ≤ 64 := by
  rcases hk.2.2.2.2.2.2.2.1 with e | ⟨e, _⟩
  · omega
  · rw [e]; show (0 : Nat) ≤ 64; omega
theorem seal_sizes {h : Hd} (hk : HdOk h) : ∀ s ∈ h.se.map sealB, s.size = 65 := fun s hs => by
  obtain ⟨x, hx, rfl⟩ := List.mem_map.1 hs
  exact sealB_size (hk.2.2.2.2.2.2.2.2 x hx)

theorem hdI_ok {h : Hd} (hk : HdOk h) : itemsT (.mk 40 hkinds) (hdF h) = some (hdI h) := by
  have hv := vo_size hk
  have hs := seal_sizes hk
  obtain ⟨h1, h2, h3, h4, h5, h6, h7, h8, h9⟩ := hk
  have e1 : itemK (.mk 42 [.mk 97 []]) (lF (h.val.map bF)) = some (lI (h.val.map bI)) := i_l (by decide) (by have := h6.2.2.2; omega) (fun s hs => by rw [h6.all s hs]; rfl)
  have e2 : itemK (.mk 42 [.mk 115 []]) (lF ((h.se.map sealB).map bF)) = some (lI ((h.se.map sealB).map bI)) := i_l (by decide) (by rw [List.length_map]; omega) (fun s hs' => by rw [hs s hs']; rfl)
  unfold hkinds hdF hdI
  rw [itemsT, if_neg (by decide)]
  simp only [rowI, i_h h1, i_h h2, i_h h3, i_a h4, i_b (Nat.le_trans h5 (by omega)), i_b hv, i_n, e1, e2, Option.bind_some, Option.map_some]
theorem rec_ok {h : Hd} (hk : HdOk h) (hn : HdNum h) : recL h = ((hdI h).write, 0) ∧ 116 ≤ (hdI h).write.length := by
  have hv := vo_size hk
  have hs := seal_sizes hk
  have hi := hdI_ok hk
  obtain ⟨h1, h2, h3, h4, h5, h6, h7, h8, h9⟩ := hk
  obtain ⟨a1, a2, a3, a4⟩ := weights_bI 20 h.val h6.all
  obtain ⟨b1, b2, b3, b4⟩ := weights_bI 65 (h.se.map sealB) hs
  have l1 := h6.2.2.2
  have l2 : (h.se.map sealB).length ≤ 16 := by rw [List.length_map]; exact h7
  have d1 := dig_len8 (n := h.ht.toNat) (by have := hn.1; omega)
  have d2 := dig_len8 (n := h.rd.toNat) (by have := hn.2; omega)
  have d3 := dig_len8 (n := if h.ad = true then 1 else 0) (by split <;> decide)
  have hw : (hdI h).weight = 1 + (33 + (1 + (dig h.ht.toNat).length) + 33 + 33 + 21 + (1 + h.va.size) + (1 + (20 + 1) * h.val.length) + (1 + h.vo.size) + (1 + (dig (if h.ad = true then 1 else 0)).length) + (1 + (dig h.rd.toNat).length) + (1 + (65 + 1) * (h.se.map sealB).length)) := by
    unfold hdI
    simp only [It.weight, weights, a1, b1, bl_length, List.length_nil, h1, h2, h3, h4]
    omega
  have hsz : (hdI h).size = 12 + h.val.length + (h.se.map sealB).length := by
    unfold hdI
    simp only [It.size, sizes, a2, b2]
    omega
  have hp : (hdI h).pure := by
    unfold hdI
    simp [-List.map_map, It.pure, pures, a3, b3]
  have hd : (hdI h).depth ≤ 8 := by
    unfold hdI
    simp [-List.map_map, It.depth, depths, a4, b4]
  have hle := write_le3 (hdI h) (by omega)
  have hge := write_ge (hdI h) hp
  refine ⟨?_, by omega⟩
  unfold recL writeF
  have hcnt : counts (hdF h) ≤ 1000 := by
    unfold hdF
    simp only [counts, Tr.count, counts_bF]
    omega
  rw [hkinds_ok]
  simp only [if_pos hcnt, hi]
  rw [It.enc, if_neg (by rw [(pureB_iff _).2 hp]; simp; omega), if_neg (by omega), if_neg (by omega)]
end Go.Proofs.Ythipnbiilobjeaa

namespace Go.Proofs.Ythipnbiilobjeaa
open Go.RowKit Go.Shelf
set_option maxRecDepth 100000

theorem someH_num : HdNum someH := ⟨⟨by decide, by decide⟩, ⟨by decide, by decide⟩⟩
theorem bytesL_ok {h : Hd} (hk : HdOk h) (hn : HdNum h) : bytesL h = ((hdI h).write, 0) := by
  unfold bytesL
  rw [hdL_true hk, if_pos rfl, (rec_ok hk hn).1]

set_option maxHeartbeats 2000000 in
theorem halive_any (w : World) : Calls Try.prog 18 #[] w fun e w' => e = .returned (.bool true) ∧ Below w.heap.size w w' := by
  have KS := Lib.hid (fun W => some_any W)
  have hb := bytesL_ok someH_ok someH_num
  have hlen := (rec_ok someH_ok someH_num).2
  have KB : Hid (∀ W sv gv, HdAt W someH sv gv → Calls Try.prog 17 #[.agg (hdc someH sv gv)] W fun e w' => e = .returned (.tuple #[.string (mkS (hdI someH).write), .int .i64 0]) ∧ Below W.heap.size W w') := Lib.hid (fun W sv gv hh => by
    have := bytes_any someH sv gv W hh someH_num (by show (1 : Nat) ≤ 1000000; omega)
    rw [hb] at this
    exact this)
  have KR : Hid (∀ W sv gv, HdAt W someH sv gv → Calls Try.prog 23 #[.agg (hdc someH sv gv)] W fun e w' => e = .returned (.bool true) ∧ Below W.heap.size W w') := Lib.hid (fun W sv gv hh => by
    have := hRight_any someH sv gv W hh (by show (1 : Nat) ≤ 1000000; omega)
    rw [hdL_true someH_ok] at this
    exact this)
  have hz : ((mkS (hdI someH).write).size : Int) > 100 := by rw [mkS_size]; omega
  clear hb hlen
  generalize mkS (hdI someH).write = B at *
  generalize someH = h at *
  have HB0 := Lib.hid (Below.refl w.heap.size w)
  go_enter Try.func18, Try.ntmps18
  go_wp2_with (first
    | (go_at_call 46; refine (KS.out _).mono ?_; rintro e w1 ⟨sv, gv, rfl, hh, hb⟩; have HH := Lib.hid hh; have HB0 := Lib.hid (HB0.out.trans (hb.mono HB0.out.size)); clear hh hb)
    | (go_at_call 17; refine (KB.out _ _ _ HH.out).mono ?_; rintro e w2 ⟨rfl, hb⟩; have HB0 := Lib.hid (HB0.out.trans (hb.mono HB0.out.size)); clear hb)
    | (go_at_call 23; refine (KR.out _ _ _ HH.out).mono ?_; rintro e w3 ⟨rfl, hb⟩; have HB0 := Lib.hid (HB0.out.trans (hb.mono HB0.out.size)); clear hb))
  go_ret
  exact ⟨rfl, HB0.out⟩
end Go.Proofs.Ythipnbiilobjeaa

namespace Go.Proofs.Ythipnbiilobjeaa
open Go.RowKit Go.Shelf
set_option maxRecDepth 100000

theorem eqU_runD (d : Nat) (a b : U4) (w : World) : (Op.equalIn (d + 2) 78 (u4V a) (u4V b)).run Try.prog w = .ok (decide (a.1 = b.1 ∧ a.2.1 = b.2.1 ∧ a.2.2.1 = b.2.2.1 ∧ a.2.2.2 = b.2.2.2)) w := by
  obtain ⟨a0, a1, a2, a3⟩ := a
  obtain ⟨b0, b1, b2, b3⟩ := b
  have hc : Try.prog.cellsOf 32 = 1 := by kernel_rfl
  have hi : (Try.prog.info? 32).map (fun i => i.size) = some 1 := by kernel_rfl
  obtain ⟨i, hi, _⟩ := Option.map_eq_some_iff.1 hi
  have hg : Try.prog.underlying 32 = some (.int .u64) := by kernel_rfl
  have hs : ∀ w, (sizeOf 32).run Try.prog w = .ok 1 w := fun w => by rw [run_sizeOf w hi, hc]
  rw [run_equalIn_array w (d + 1) (n := 4) (e := 32) _ _ (by kernel_rfl) hi, hc]
  rw [show List.range 4 = [0, 1, 2, 3] from rfl]
  simp only [Op.eqItems]
  have hp : ∀ (xs : Array Value) (j : Nat) (v : Value) (w : World), xs[j]? = some v → (part 32 xs j).run Try.prog w = .ok v w := fun xs j v w h => by
    simp [part, go_sem, h]
  have pa0 : ∀ w, (part 32 (u4c (a0, a1, a2, a3)) (0 * 1)).run Try.prog w = .ok (.int .u64 a0) w := fun w => hp _ _ _ w rfl
  have pa1 : ∀ w, (part 32 (u4c (a0, a1, a2, a3)) (1 * 1)).run Try.prog w = .ok (.int .u64 a1) w := fun w => hp _ _ _ w rfl
  have pa2 : ∀ w, (part 32 (u4c (a0, a1, a2, a3)) (2 * 1)).run Try.prog w = .ok (.int .u64 a2) w := fun w => hp _ _ _ w rfl
  have pa3 : ∀ w, (part 32 (u4c (a0, a1, a2, a3)) (3 * 1)).run Try.prog w = .ok (.int .u64 a3) w := fun w => hp _ _ _ w rfl
  have pb0 : ∀ w, (part 32 (u4c (b0, b1, b2, b3)) (0 * 1)).run Try.prog w = .ok (.int .u64 b0) w := fun w => hp _ _ _ w rfl
  have pb1 : ∀ w, (part 32 (u4c (b0, b1, b2, b3)) (1 * 1)).run Try.prog w = .ok (.int .u64 b1) w := fun w => hp _ _ _ w rfl
  have pb2 : ∀ w, (part 32 (u4c (b0, b1, b2, b3)) (2 * 1)).run Try.prog w = .ok (.int .u64 b2) w := fun w => hp _ _ _ w rfl
  have pb3 : ∀ w, (part 32 (u4c (b0, b1, b2, b3)) (3 * 1)).run Try.prog w = .ok (.int .u64 b3) w := fun w => hp _ _ _ w rfl
  have he : ∀ (x y : Int) w, (Op.equalIn (d + 1) 32 (.int .u64 x) (.int .u64 y)).run Try.prog w = .ok (x == y) w := fun x y w => run_equalIn_int w d _ _ _ _ _ hg
  have hR : decide (a0 = b0 ∧ a1 = b1 ∧ a2 = b2 ∧ a3 = b3) = ((a0 == b0) && ((a1 == b1) && ((a2 == b2) && (a3 == b3)))) := by
    rw [Bool.eq_iff_iff]; simp
  simp only [hR]
  simp only [Sem.run_bind, pa0, pb0, he, Result.andThen_ok]
  cases (a0 == b0)
  · simp
  simp only [Bool.not_true, Bool.false_eq_true, if_false, Sem.run_bind, pa1, pb1, he, Result.andThen_ok, Bool.true_and]
  cases (a1 == b1)
  · simp
  simp only [Bool.not_true, Bool.false_eq_true, if_false, Sem.run_bind, pa2, pb2, he, Result.andThen_ok, Bool.true_and]
  cases (a2 == b2)
  · simp
  simp only [Bool.not_true, Bool.false_eq_true, if_false, Sem.run_bind, pa3, pb3, he, Result.andThen_ok, Bool.true_and]
  cases (a3 == b3) <;> simp

theorem eqSig_run (a b : Sg) (w : World) : (Op.equalIn 10000 80 (sgV a) (sgV b)).run Try.prog w = .ok (decide (a = b)) w := by
  have hu : Try.prog.underlying 78 = some (.array 4 32) := by kernel_rfl
  obtain ⟨⟨a0, a1, a2, a3⟩, ⟨a4, a5, a6, a7⟩, a8⟩ := a
  obtain ⟨⟨b0, b1, b2, b3⟩, ⟨b4, b5, b6, b7⟩, b8⟩ := b
  rw [run_equalIn_struct w 9999 80 _ _ (by kernel_rfl) (by kernel_rfl)]
  have hf : (Try.prog.fieldsOf 80).toList.map (fun f => (f.name, f.type, f.offset)) = [("R", 78, 0), ("S", 78, 4), ("V", 3, 8)] := by kernel_rfl
  generalize (Try.prog.fieldsOf 80).toList = fl at hf ⊢
  have hl3 : fl.length = 3 := by have := congrArg List.length hf; simpa using this
  obtain ⟨f0, f1, f2, rfl⟩ : ∃ f0 f1 f2, fl = [f0, f1, f2] := by
    match fl, hl3 with
    | [a, b, c], _ => exact ⟨a, b, c, rfl⟩
  simp only [List.map_cons, List.map_nil, List.cons.injEq, Prod.mk.injEq, and_true] at hf
  obtain ⟨e0, e1, e2⟩ := hf
  have pU : ∀ (xs : Array Value) (k : Nat) (w : World), (part 78 xs k).run Try.prog w = .ok (.agg (xs.extract k (k + 4))) w := fun xs k w => by
    have hc : Try.prog.cellsOf 78 = 4 := by kernel_rfl
    have hi : (Try.prog.info? 78).map (fun i => i.size) = some 4 := by kernel_rfl
    obtain ⟨i, hi, _⟩ := Option.map_eq_some_iff.1 hi
    have hs : (sizeOf 78).run Try.prog w = .ok 4 w := by rw [run_sizeOf w hi, hc]
    simp [part, go_sem]
  have pV : ∀ (xs : Array Value) (v : Value) (w : World), xs[8]? = some v → (part 3 xs 8).run Try.prog w = .ok v w := fun xs v w h => by
    have hg : Try.prog.underlying 3 = some (.int .i64) := by kernel_rfl
    simp [part, go_sem, h]
  have hV : ∀ (x y : Int) w, (Op.equalIn 9999 3 (.int .i64 x) (.int .i64 y)).run Try.prog w = .ok (x == y) w := fun x y w => run_equalIn_int w 9998 _ _ _ _ _ (by kernel_rfl : Try.prog.underlying 3 = some (.int .i64))
  simp only [Op.eqFields, e0.1, e1.1, e2.1, e0.2.1, e1.2.1, e2.2.1, e0.2.2, e1.2.2, e2.2.2]
  have k1 := fun w => eqU_runD 9997 (a0, a1, a2, a3) (b0, b1, b2, b3) w
  have k2 := fun w => eqU_runD 9997 (a4, a5, a6, a7) (b4, b5, b6, b7) w
  have v1 := fun w => pV (sgc ((a0, a1, a2, a3), (a4, a5, a6, a7), a8)) _ w rfl
  have v2 := fun w => pV (sgc ((b0, b1, b2, b3), (b4, b5, b6, b7), b8)) _ w rfl
  have x1 : (sgc ((a0, a1, a2, a3), (a4, a5, a6, a7), a8)).extract 0 (0 + 4) = u4c (a0, a1, a2, a3) := rfl
  have x2 : (sgc ((b0, b1, b2, b3), (b4, b5, b6, b7), b8)).extract 0 (0 + 4) = u4c (b0, b1, b2, b3) := rfl
  have x3 : (sgc ((a0, a1, a2, a3), (a4, a5, a6, a7), a8)).extract 4 (4 + 4) = u4c (a4, a5, a6, a7) := rfl
  have x4 : (sgc ((b0, b1, b2, b3), (b4, b5, b6, b7), b8)).extract 4 (4 + 4) = u4c (b4, b5, b6, b7) := rfl
  have hR : decide ((((a0, a1, a2, a3), (a4, a5, a6, a7), a8) : Sg) = ((b0, b1, b2, b3), (b4, b5, b6, b7), b8)) = (decide (a0 = b0 ∧ a1 = b1 ∧ a2 = b2 ∧ a3 = b3) && (decide (a4 = b4 ∧ a5 = b5 ∧ a6 = b6 ∧ a7 = b7) && (a8 == b8))) := by
    rw [Bool.eq_iff_iff]
    simp only [decide_eq_true_eq, Prod.mk.injEq, Bool.and_eq_true, beq_iff_eq]
  rw [hR]
  rw [if_pos (by decide)]
  simp only [Sem.run_bind, pU, Result.andThen_ok, x1, x2]
  rw [k1]
  simp only [Result.andThen_ok]
  cases decide (a0 = b0 ∧ a1 = b1 ∧ a2 = b2 ∧ a3 = b3)
  · simp
  simp only [Bool.not_true, Bool.false_eq_true, if_false, Bool.true_and]
  rw [if_pos (by decide)]
  simp only [Sem.run_bind, pU, Result.andThen_ok, x3, x4]
  rw [k2]
  simp only [Result.andThen_ok]
  cases decide (a4 = b4 ∧ a5 = b5 ∧ a6 = b6 ∧ a7 = b7)
  · simp
  simp only [Bool.not_true, Bool.false_eq_true, if_false, Bool.true_and]
  rw [if_pos (by decide)]
  simp only [Sem.run_bind, v1, v2, Result.andThen_ok]
  rw [show (sgc ((a0, a1, a2, a3), (a4, a5, a6, a7), a8))[8] = .int .i64 a8 from rfl, show (sgc ((b0, b1, b2, b3), (b4, b5, b6, b7), b8))[8] = .int .i64 b8 from rfl, hV]
  simp only [Result.andThen_ok]
  cases (a8 == b8) <;> simp
end Go.Proofs.Ythipnbiilobjeaa

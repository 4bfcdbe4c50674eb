/- May a signature be, says the reference. May a header be, says the reference. -/
import Derived.Test.YthipnbiilobjeaaW2
import Derived.Test.YthipnbiilobjeaaHd2
namespace Go.Proofs.Ythipnbiilobjeaa
open Go.RowKit Go.Shelf

set_option maxRecDepth 100000 in
set_option maxHeartbeats 1000000 in
theorem rmodulus_any (w : World) : Calls Try.prog 134 #[.int .i64 1] w fun e w' => e = .returned (u4V oN) ∧ Below w.heap.size w w' := by
  have R := Lib.hid (RowAt.new w (u4c (0, 0, 0, 0)) 78)
  have HB := Lib.hid (belowA w (.cells (u4c (0, 0, 0, 0)) 78))
  obtain ⟨z0, z1, z2, z3, zf0, zf1, zf2, zf3⟩ := R.out.c4
  simp only at z0 z1 z2 z3
  go_enter Try.func134, Try.ntmps134
  go_wp2
  obtain ⟨k0, k1, k2, k3, _⟩ := (RowAt.new w (u4c oN) 78).c4
  simp only at k0 k1 k2 k3
  refine bodyPost_ret (v := u4V oN) (by simp [results, Try.results134, go_sem, k0, k1, k2, k3]) rfl ?_
  exact ⟨rfl, belowA w _⟩

theorem ofN_val : nval (ofL oN) = oN.val := ofL_val oN_ok

set_option maxRecDepth 100000 in
set_option maxHeartbeats 1000000 in
theorem isSecret_any (a : U4) (ha : a.ok) (w : World) : Calls Try.prog 86 #[u4V a] w fun e w' => e = .returned (.bool (betweenU a)) ∧ Below w.heap.size w w' := by
  have hz : a.val = 0 ↔ (a.1 = 0 ∧ a.2.1 = 0 ∧ a.2.2.1 = 0 ∧ a.2.2.2 = 0) := by
    obtain ⟨⟨x0, x0'⟩, ⟨x1, x1'⟩, ⟨x2, x2'⟩, ⟨x3, x3'⟩⟩ := ha
    unfold U4.val
    omega
  have KOA := Lib.hid (fun W => of_any a ha W)
  have KON := Lib.hid (fun W => of_any oN oN_ok W)
  have KL := Lib.hid (fun va vb W h1 h2 => less_num va vb (ofL a) (ofL oN) W h1 h2 (ofL_ok a) (ofL_ok oN) (by rw [ofL_length]; omega) (by rw [ofL_length]; omega))
  rw [ofL_val ha, ofN_val] at KL
  have R1 := Lib.hid (RowAt.new w (u4c a) 78)
  have HB := Lib.hid (belowA w (.cells (u4c a) 78))
  have hbt : betweenU a = (decide (a.val ≠ 0) && decide (a.val < oN.val)) := rfl
  have hq := fun w => eqU_run a (0, 0, 0, 0) w
  generalize hal : decide (a.val < oN.val) = lt at *
  obtain ⟨a0, a1, a2, a3⟩ := a
  simp only at hz hq
  generalize ofL (a0, a1, a2, a3) = La at *
  generalize ofL oN = Ln at *
  clear ha
  go_enter Try.func86, Try.ntmps86
  go_upto_region 2 with (first | (go_at_call 134; refine (rmodulus_any _).mono ?_; rintro e w1 ⟨rfl, hb⟩; (replace R1 := Lib.hid (R1.out.belowS hb); replace HB := Lib.hid (HB.out.trans (hb.mono HB.out.size)); clear hb)) | (go_at_call 133; refine (KON.out _).mono ?_; rintro e w2 ⟨vn, rfl, hn, hb⟩; (replace R1 := Lib.hid (R1.out.belowS hb); replace HB := Lib.hid (HB.out.trans (hb.mono HB.out.size)); clear hb); have HN := Lib.hid hn; clear hn))
  obtain ⟨x0, x1, x2, x3, xf0, xf1, xf2, xf3⟩ := R1.out.c4
  simp only at x0 x1 x2 x3
  by_cases e : a0 = 0 ∧ a1 = 0 ∧ a2 = 0 ∧ a3 = 0
  · have hv : Hid (betweenU (a0, a1, a2, a3) = false) := Lib.hid (by rw [hbt, hz.2 e]; rfl)
    rw [decide_eq_true e] at hq
    clear hz e hbt hal
    go_wp2
    go_ret
    exact ⟨by rw [hv.out]; rfl, HB.out⟩
  · have hv : Hid (betweenU (a0, a1, a2, a3) = lt) := Lib.hid (by
      rw [hbt, decide_eq_true (p := U4.val (a0, a1, a2, a3) ≠ 0) (fun h => e (hz.1 h)), Bool.true_and])
    rw [decide_eq_false e] at hq
    clear hz e hbt hal
    go_wp2_with (first | (go_at_call 133; refine (KOA.out _).mono ?_; rintro e w2 ⟨va, rfl, ha, hb⟩; (replace HN := Lib.hid (HN.out.below hb (Nat.le_refl _)); replace HB := Lib.hid (HB.out.trans (hb.mono HB.out.size)); clear hb); have HA := Lib.hid ha; clear ha) | (go_at_call 135; refine (KL.out _ _ _ HA.out HN.out).mono ?_; rintro e w3 ⟨rfl, rfl⟩))
    go_ret
    exact ⟨by rw [hv.out]; rfl, HB.out⟩

set_option maxRecDepth 100000 in
set_option maxHeartbeats 1000000 in
theorem rhigh_any (a : U4) (ha : a.ok) (w : World) : Calls Try.prog 87 #[u4V a] w fun e w' => e = .returned (.bool (highU a)) ∧ Below w.heap.size w w' := by
  have KOA := Lib.hid (fun W => of_any a ha W)
  have KON := Lib.hid (fun W => of_any oN oN_ok W)
  have KS := Lib.hid (fun va W h => sum_num va va (ofL a) (ofL a) W h h (ofL_ok a) (ofL_ok a) (by rw [ofL_length]; omega) (by rw [ofL_length]; omega))
  have KL := Lib.hid (fun va vb l W h1 h2 h3 (h4 : l.length ≤ 1000001) => less_num va vb (ofL oN) l W h1 h2 (ofL_ok oN) h3 (by rw [ofL_length]; omega) (Nat.le_trans h4 (by omega)))
  rw [ofL_val ha] at KS
  rw [ofN_val] at KL
  have R1 := Lib.hid (RowAt.new w (u4c a) 78)
  have HB := Lib.hid (belowA w (.cells (u4c a) 78))
  have hbt : highU a = decide (oN.val < 2 * a.val) := rfl
  have htw : a.val + a.val = 2 * a.val := by omega
  rw [htw] at KS
  have HV := Lib.hid hbt
  generalize 2 * a.val = tw at *
  obtain ⟨a0, a1, a2, a3⟩ := a
  generalize ofL (a0, a1, a2, a3) = La at *
  generalize ofL oN = Ln at *
  clear ha hbt htw
  go_enter Try.func87, Try.ntmps87
  go_upto_region 1 with (fail)
  obtain ⟨x0, x1, x2, x3, xf0, xf1, xf2, xf3⟩ := R1.out.c4
  simp only at x0 x1 x2 x3
  go_upto_region 2 with (go_at_call 133; refine (KOA.out _).mono ?_; rintro e w2 ⟨va, rfl, ha, hb⟩; (replace HB := Lib.hid (HB.out.trans (hb.mono HB.out.size)); clear hb); have HA := Lib.hid ha; clear ha)
  clear x0 x1 x2 x3 xf0 xf1 xf2 xf3
  go_wp2_with (first | (go_at_call 134; refine (rmodulus_any _).mono ?_; rintro e w3 ⟨rfl, hb⟩; (replace HA := Lib.hid (HA.out.below hb (Nat.le_refl _)); replace HB := Lib.hid (HB.out.trans (hb.mono HB.out.size)); clear hb)) | (go_at_call 133; refine (KON.out _).mono ?_; rintro e w4 ⟨vn, rfl, hn, hb⟩; (replace HA := Lib.hid (HA.out.below hb (Nat.le_refl _)); replace HB := Lib.hid (HB.out.trans (hb.mono HB.out.size)); clear hb); have HN := Lib.hid hn; clear hn) | (go_at_call 136; refine (KS.out _ _ HA.out).mono ?_; rintro e w5 ⟨vs, ls, rfl, hs, hsd, hsv, hsl, hb⟩; (replace HN := Lib.hid (HN.out.below hb (Nat.le_refl _)); replace HB := Lib.hid (HB.out.trans (hb.mono HB.out.size)); clear hb); have HS := Lib.hid hs; have HSD := Lib.hid hsd; have HSV := Lib.hid hsv; clear hs hsd hsv) | (go_at_call 135; refine (KL.out _ _ ls _ HN.out HS.out HSD.out hsl).mono ?_; rintro e w6 ⟨rfl, rfl⟩))
  go_ret
  exact ⟨by rw [HV.out, ← HSV.out]; rfl, HB.out⟩

theorem isSig_v (s : Sg) : sigOk s = (betweenU s.1 && (betweenU s.2.1 && (!highU s.2.1 && (decide (0 ≤ s.2.2) && decide (s.2.2 ≤ 1))))) := by
  unfold sigOk
  have : ((s.2.2 == 0) || (s.2.2 == 1)) = (decide (0 ≤ s.2.2) && decide (s.2.2 ≤ 1)) := by
    by_cases h0 : s.2.2 = 0
    · simp [h0]
    · by_cases h1 : s.2.2 = 1
      · simp [h1]
      · have : ¬ (0 ≤ s.2.2 ∧ s.2.2 ≤ 1) := by omega
        rw [← Bool.decide_and, decide_eq_false this]
        simp [h0, h1]
  rw [this]

set_option maxRecDepth 100000 in
set_option maxHeartbeats 4000000 in
theorem isSig_any (s : Sg) (hs : s.ok) (w : World) : Calls Try.prog 51 #[sgV s] w fun e w' => e = .returned (.bool (sigOk s)) ∧ Below w.heap.size w w' := by
  have hv := Lib.hid (isSig_v s)
  obtain ⟨⟨r0, r1, r2, r3⟩, ⟨s0, s1, s2, s3⟩, v⟩ := s
  have K1 := fun W => isSecret_any (r0, r1, r2, r3) hs.1 W
  have K2 := fun W => isSecret_any (s0, s1, s2, s3) hs.2 W
  have K3 := fun W => rhigh_any (s0, s1, s2, s3) hs.2 W
  have R := Lib.hid (RowAt.new w (sgc ((r0, r1, r2, r3), (s0, s1, s2, s3), v)) 80)
  have HB := Lib.hid (belowA w (.cells (sgc ((r0, r1, r2, r3), (s0, s1, s2, s3), v)) 80))
  generalize sigOk ((r0, r1, r2, r3), (s0, s1, s2, s3), v) = Z at *
  generalize betweenU (r0, r1, r2, r3) = b1 at *
  generalize betweenU (s0, s1, s2, s3) = b2 at *
  generalize highU (s0, s1, s2, s3) = b3 at *
  cases b1 <;> cases b2 <;> cases b3
  all_goals
    have K1 := Lib.hid K1
    have K2 := Lib.hid K2
    have K3 := Lib.hid K3
    clear hs
    go_enter Try.func51, Try.ntmps51
    go_upto_region 1 with (fail)
    obtain ⟨x0, x1, x2, x3, x4, x5, x6, x7, x8⟩ := R.out.c9
    simp only at x0 x1 x2 x3 x4 x5 x6 x7 x8
    go_wp2_with (first
      | (go_at_call_of 86 (Value.int .u64 r3); refine (K1.out _).mono ?_; rintro e w1 ⟨rfl, hb⟩; (replace R := Lib.hid (R.out.belowS hb); replace HB := Lib.hid (HB.out.trans (hb.mono HB.out.size)); clear hb); clear x0 x1 x2 x3 x4 x5 x6 x7 x8; obtain ⟨x0, x1, x2, x3, x4, x5, x6, x7, x8⟩ := R.out.c9; simp only at x0 x1 x2 x3 x4 x5 x6 x7 x8)
      | (go_at_call 86; refine (K2.out _).mono ?_; rintro e w1 ⟨rfl, hb⟩; (replace R := Lib.hid (R.out.belowS hb); replace HB := Lib.hid (HB.out.trans (hb.mono HB.out.size)); clear hb); clear x0 x1 x2 x3 x4 x5 x6 x7 x8; obtain ⟨x0, x1, x2, x3, x4, x5, x6, x7, x8⟩ := R.out.c9; simp only at x0 x1 x2 x3 x4 x5 x6 x7 x8)
      | (go_at_call 87; refine (K3.out _).mono ?_; rintro e w1 ⟨rfl, hb⟩; (replace R := Lib.hid (R.out.belowS hb); replace HB := Lib.hid (HB.out.trans (hb.mono HB.out.size)); clear hb); clear x0 x1 x2 x3 x4 x5 x6 x7 x8; obtain ⟨x0, x1, x2, x3, x4, x5, x6, x7, x8⟩ := R.out.c9; simp only at x0 x1 x2 x3 x4 x5 x6 x7 x8))
    all_goals
      go_ret
      exact ⟨by rw [hv.out]; first | rfl | (simp; done) | (simp; omega), HB.out⟩
end Go.Proofs.Ythipnbiilobjeaa

namespace Go.Proofs.Ythipnbiilobjeaa
open Go.RowKit Go.Shelf

theorem size_nil {s : ByteArray} : s.size = 0 ↔ s = ⟨#[]⟩ := by
  constructor
  · intro h
    apply bl_inj
    have : (bl s).length = 0 := by rw [bl_length, h]
    rw [List.eq_nil_of_length_eq_zero this]
    rfl
  · rintro rfl
    rfl

set_option maxRecDepth 100000 in
set_option maxHeartbeats 4000000 in
theorem rhRight_any (h : Hd) (sv gv : Value) (w : World) (hh : HdAt w h sv gv) (hl : h.val.length ≤ 1000000) : Calls Try.prog 24 #[hdV h sv gv] w fun e w' => e = .returned (.bool (hdL h)) ∧ Below w.heap.size w w' := by
  obtain ⟨hS, hG, hok⟩ := hh
  have KA := fun W hW => rset_any sv h.val W hW hl
  have HS := Lib.hid hS
  have HG := Lib.hid hG
  have HOK := Lib.hid hok
  obtain ⟨pS, cS, rfl, s1, s2⟩ := RowE.shape encS hS
  obtain ⟨pG, cG, rfl, s3, s4⟩ := RowE.shape encG hG
  clear hS hG hok
  have hyes : HdOk h → hdL h = true := hdL_true
  have hno : ¬ HdOk h → hdL h = false := hdL_false
  have hdef : HdOk h ↔ (h.pa.size = 32 ∧ h.ro.size = 32 ∧ h.tx.size = 32 ∧ h.pr.size = 20 ∧ h.va.size ≤ 8 ∧ SetOk h.val ∧ h.se.length ≤ 16 ∧ (h.vo.size = 20 ∨ (h.vo = ⟨#[]⟩ ∧ h.ad = false)) ∧ ∀ s ∈ h.se, sigOk s = true) := Iff.rfl
  generalize hdL h = R at *
  generalize HdOk h = Ok at *
  obtain ⟨pa, ht, ro, tx, pr, va, val, vo, ad, rd, se⟩ := h
  simp only at hdef s1 s3 hl HS HG KA HOK
  unfold maxLen at s2 s4
  have R1 := Lib.hid (RowAt.new w (hdc ⟨pa, ht, ro, tx, pr, va, val, vo, ad, rd, se⟩ (.slice pS val.length cS) (.slice pG se.length cG)) 36)
  have HB := Lib.hid (belowA w (.cells (hdc ⟨pa, ht, ro, tx, pr, va, val, vo, ad, rd, se⟩ (.slice pS val.length cS) (.slice pG se.length cG)) 36))
  have HY := Lib.hid hyes
  have HN := Lib.hid hno
  have HD := Lib.hid hdef
  clear hyes hno hdef
  go_enter Try.func24, Try.ntmps24
  go_upto_region 1 with (fail)
  generalize (w.alloc (.cells (hdc ⟨pa, ht, ro, tx, pr, va, val, vo, ad, rd, se⟩ (.slice pS val.length cS) (.slice pG se.length cG)) 36)) = W at *
  obtain ⟨x0, x1, x2, x3, x4, x5, x6, x7, x8, x9, x10⟩ := R1.out.c11
  simp only at x0 x1 x2 x3 x4 x5 x6 x7 x8 x9 x10
  have KA2 := KA W (RowE.below encS HS.out HB.out (Nat.le_refl _))
  clear KA
  by_cases c1 : pa.size = 32
  · have q1 : ((pa.size : Int) != 32) = false := by first | omega | (simp; omega)
    by_cases c2 : ro.size = 32
    · have q2 : ((ro.size : Int) != 32) = false := by first | omega | (simp; omega)
      by_cases c3 : tx.size = 32
      · have q3 : ((tx.size : Int) != 32) = false := by first | omega | (simp; omega)
        by_cases c4 : pr.size = 20
        · have q4 : ((pr.size : Int) != 20) = false := by first | omega | (simp; omega)
          by_cases c5 : va.size ≤ 8
          · have q5 : ¬ (va.size : Int) > 8 := by first | omega | (simp; omega)
            by_cases c6 : SetOk val
            · rw [setL_true c6] at KA2
              have KA2 := Lib.hid KA2
              have HD3 := Lib.hid (show Ok ↔ (se.length ≤ 16 ∧ (vo.size = 20 ∨ (vo = ⟨#[]⟩ ∧ ad = false)) ∧ ∀ s ∈ se, sigOk s = true) from ⟨fun h => (HD.out.1 h).2.2.2.2.2.2, fun h => HD.out.2 ⟨c1, c2, c3, c4, c5, c6, h⟩⟩)
              clear c1 c2 c3 c4 c5 c6 HD
              go_upto_region 3 with (go_at_call 50; refine KA2.out.mono ?_; rintro e w1 ⟨rfl, rfl⟩)
              clear q1 q2 q3 q4 q5 KA2
              have hvo : (vo.size = 20 ∨ (vo = ⟨#[]⟩ ∧ ad = false)) ∨ (¬ vo.size = 20 ∧ ¬ vo = ⟨#[]⟩) ∨ (vo = ⟨#[]⟩ ∧ ad = true) := by
                by_cases e1 : vo.size = 20
                · exact .inl (.inl e1)
                · by_cases e2 : vo = ⟨#[]⟩
                  · cases ad
                    · exact .inl (.inr ⟨e2, rfl⟩)
                    · exact .inr (.inr ⟨e2, rfl⟩)
                  · exact .inr (.inl ⟨e1, e2⟩)
              rcases hvo with hvo | ⟨e1, e2⟩ | ⟨rfl, rfl⟩
              · by_cases c7 : se.length ≤ 16
                · have HD4 := Lib.hid (show Ok ↔ ∀ s ∈ se, sigOk s = true from ⟨fun h => (HD3.out.1 h).2.2, fun h => HD3.out.2 ⟨c7, hvo, h⟩⟩)
                  have q7 : ¬ (se.length : Int) > 16 := by omega
                  clear HD3 c7
                  go_cut [63] (fun t wr => t = .bool false ∧ W = wr)
                  case first =>
                    rcases hvo with e | ⟨rfl, rfl⟩
                    · have q5 : ((vo.size : Int) != 20) = false := by simp [e]
                      have q4 : ((vo.size : Int) != 0) = true := bne_iff_ne.2 (by omega)
                      have q6 : ¬ vo.toList = [] := by
                        have : ¬ vo = ⟨#[]⟩ := fun h => by have := size_nil.2 h; omega
                        simpa using seq_false this
                      clear e
                      go_wp2_with (fail)
                      go_meet
                      case rel => exact ⟨rfl, rfl⟩
                    · go_wp2_with (fail)
                      go_meet
                      case rel => exact ⟨rfl, rfl⟩
                  case rest =>
                  obtain ⟨rfl, rfl⟩ := hcut
                  clear hvo
                  go_upto_region 6 with (fail)
                  clear x0 x1 x2 x3 x4 x5 x6 x7 x8 x9 x10
                  go_loopw [67] (fun c wr => ∃ k : Nat, k ≤ se.length ∧ c = .int .i64 k ∧ Hid (∀ j s, j < k → se[j]? = some s → sigOk s = true) ∧ Hid (Below w.heap.size w wr)) (fun c _ => se.length - (intOf c).toNat)
                  case atStart => exact ⟨0, Nat.zero_le _, rfl, Lib.hid (fun _ _ h => by omega), HB⟩
                  case round =>
                    obtain ⟨k, hk, rfl, hto, hb⟩ := hrel
                    clear HB
                    have HB := Lib.hid hb.out
                    clear hb
                    by_cases hlt : k < se.length
                    · have hg := List.getElem?_eq_getElem hlt
                      obtain ⟨a, rfl, hc⟩ := (RowE.below encG HG.out HB.out (Nat.le_refl _)).atG k se[k] hg
                      have hsk := HOK.out se[k] (List.getElem_mem hlt)
                      generalize se[k] = s at *
                      obtain ⟨⟨r0, r1, r2, r3⟩, ⟨s0, s1, s2, s3⟩, v⟩ := s
                      have c0 := hc 0 _ rfl
                      have c1 := hc 1 _ rfl
                      have c2 := hc 2 _ rfl
                      have c3 := hc 3 _ rfl
                      have c4 := hc 4 _ rfl
                      have c5 := hc 5 _ rfl
                      have c6 := hc 6 _ rfl
                      have c7 := hc 7 _ rfl
                      have c8 := hc 8 _ rfl
                      clear hc
                      replace c0 : wr.cell? (a.add (k * 9)) = _ := c0
                      replace c1 : wr.cell? ⟨(a.add (k * 9)).block, (a.add (k * 9)).off + 1, none⟩ = _ := c1
                      replace c2 : wr.cell? ⟨(a.add (k * 9)).block, (a.add (k * 9)).off + 2, none⟩ = _ := c2
                      replace c3 : wr.cell? ⟨(a.add (k * 9)).block, (a.add (k * 9)).off + 3, none⟩ = _ := c3
                      replace c4 : wr.cell? ⟨(a.add (k * 9)).block, (a.add (k * 9)).off + 4, none⟩ = _ := c4
                      replace c5 : wr.cell? ⟨(a.add (k * 9)).block, (a.add (k * 9)).off + 5, none⟩ = _ := c5
                      replace c6 : wr.cell? ⟨(a.add (k * 9)).block, (a.add (k * 9)).off + 6, none⟩ = _ := c6
                      replace c7 : wr.cell? ⟨(a.add (k * 9)).block, (a.add (k * 9)).off + 7, none⟩ = _ := c7
                      replace c8 : wr.cell? ⟨(a.add (k * 9)).block, (a.add (k * 9)).off + 8, none⟩ = _ := c8
                      try simp only at c0 c1 c2 c3 c4 c5 c6 c7 c8
                      have KS := isSig_any ((r0, r1, r2, r3), (s0, s1, s2, s3), v) hsk (wr.alloc (.cells (sgc ((r0, r1, r2, r3), (s0, s1, s2, s3), v)) 80))
                      have RS4 := Lib.hid (RowAt.new wr (sgc ((r0, r1, r2, r3), (s0, s1, s2, s3), v)) 80)
                      have HB2 := Lib.hid (HB.out.alloc HB.out.size (.cells (sgc ((r0, r1, r2, r3), (s0, s1, s2, s3), v)) 80))
                      cases e : sigOk ((r0, r1, r2, r3), (s0, s1, s2, s3), v)
                      · rw [e] at KS
                        have KS := Lib.hid KS
                        have hr := HN.out (fun h => by have := HD4.out.1 h _ (List.mem_of_getElem? hg); rw [e] at this; cases this)
                        clear hg e hsk
                        go_wp2_with (go_at_call 51; refine KS.out.mono ?_; rintro e w3 ⟨rfl, hb⟩; have HB3 := Lib.hid (HB2.out.trans (hb.mono HB2.out.size)); clear hb)
                        go_ret
                        exact ⟨by first | rfl | (rw [hr]; rfl), HB3.out⟩
                      · rw [e] at KS
                        have KS := Lib.hid KS
                        have hn : Hid (∀ j s, j < k + 1 → se[j]? = some s → sigOk s = true) := Lib.hid (fun j s hj hs => by
                          by_cases e2 : j = k
                          · subst e2; rw [hg] at hs; injection hs with hs; subst hs; exact e
                          · exact hto.out j s (by omega) hs)
                        clear hg e hsk hto
                        go_wp2_with (go_at_call 51; refine KS.out.mono ?_; rintro e w3 ⟨rfl, hb⟩; have HB3 := Lib.hid (HB2.out.trans (hb.mono HB2.out.size)); clear hb)
                        exact ⟨⟨k + 1, by omega, by simp, hn, HB3⟩, by simp [intOf]; omega⟩
                    · obtain rfl : k = se.length := by omega
                      have hr := HY.out (HD4.out.2 (fun s hs => by
                        obtain ⟨j, hj⟩ := List.getElem?_of_mem hs
                        exact hto.out j s (List.getElem?_eq_some_iff.1 hj).1 hj))
                      clear hto
                      go_wp2_with (fail)
                      go_ret
                      exact ⟨by first | rfl | (rw [hr]; rfl), HB.out⟩
                · have hr := HN.out (fun h => c7 (HD3.out.1 h).1)
                  have q7 : (se.length : Int) > 16 := by omega
                  clear c7 HD3
                  rcases hvo with e | ⟨rfl, rfl⟩
                  · have q5 : ((vo.size : Int) != 20) = false := by simp [e]
                    have q4 : ((vo.size : Int) != 0) = true := bne_iff_ne.2 (by omega)
                    have q6 : ¬ vo.toList = [] := by
                      have : ¬ vo = ⟨#[]⟩ := fun h => by have := size_nil.2 h; omega
                      simpa using seq_false this
                    clear e
                    go_wp2_with (fail)
                    go_ret
                    exact ⟨by first | rfl | (rw [hr]; rfl), HB.out⟩
                  · go_wp2_with (fail)
                    go_ret
                    exact ⟨by first | rfl | (rw [hr]; rfl), HB.out⟩
              · have hr := HN.out (fun h => by rcases (HD3.out.1 h).2.1 with h | ⟨h, _⟩; exact e1 h; exact e2 h)
                have q5 : ((vo.size : Int) != 20) = true := by simp; omega
                have q4 : ((vo.size : Int) != 0) = true := by
                  have : ¬ vo.size = 0 := fun h => e2 (size_nil.1 h)
                  exact bne_iff_ne.2 (by omega)
                clear e1 e2 HD3
                go_wp2_with (fail)
                go_ret
                exact ⟨by first | rfl | (rw [hr]; rfl), HB.out⟩
              · have hr := HN.out (fun h => by rcases (HD3.out.1 h).2.1 with h | ⟨_, h⟩; cases h; cases h)
                clear HD3
                go_wp2_with (fail)
                go_ret
                exact ⟨by first | rfl | (rw [hr]; rfl), HB.out⟩
            · rw [setL_false c6] at KA2
              have KA2 := Lib.hid KA2
              have hr := HN.out (fun h => c6 (by have h := HD.out.1 h; exact h.2.2.2.2.2.1))
              clear c1 c2 c3 c4 c5 c6 HD
              go_wp2_with (go_at_call 50; refine KA2.out.mono ?_; rintro e w1 ⟨rfl, rfl⟩)
              go_ret
              exact ⟨by first | rfl | (rw [hr]; rfl), HB.out⟩
          · have q5 : (va.size : Int) > 8 := by first | omega | (simp; omega)
            have hr := HN.out (fun h => c5 (by have h := HD.out.1 h; exact h.2.2.2.2.1))
            clear c1 c2 c3 c4 c5 HD KA2
            go_wp2_with (fail)
            go_ret
            exact ⟨by first | rfl | (rw [hr]; rfl), HB.out⟩
        · have q4 : ((pr.size : Int) != 20) = true := by first | omega | (simp; omega)
          have hr := HN.out (fun h => c4 (by have h := HD.out.1 h; exact h.2.2.2.1))
          clear c1 c2 c3 c4 HD KA2
          go_wp2_with (fail)
          go_ret
          exact ⟨by first | rfl | (rw [hr]; rfl), HB.out⟩
      · have q3 : ((tx.size : Int) != 32) = true := by first | omega | (simp; omega)
        have hr := HN.out (fun h => c3 (by have h := HD.out.1 h; exact h.2.2.1))
        clear c1 c2 c3 HD KA2
        go_wp2_with (fail)
        go_ret
        exact ⟨by first | rfl | (rw [hr]; rfl), HB.out⟩
    · have q2 : ((ro.size : Int) != 32) = true := by first | omega | (simp; omega)
      have hr := HN.out (fun h => c2 (by have h := HD.out.1 h; exact h.2.1))
      clear c1 c2 HD KA2
      go_wp2_with (fail)
      go_ret
      exact ⟨by first | rfl | (rw [hr]; rfl), HB.out⟩
  · have q1 : ((pa.size : Int) != 32) = true := by first | omega | (simp; omega)
    have hr := HN.out (fun h => c1 (by have h := HD.out.1 h; exact h.1))
    clear c1 HD KA2
    go_wp2_with (fail)
    go_ret
    exact ⟨by first | rfl | (rw [hr]; rfl), HB.out⟩
end Go.Proofs.Ythipnbiilobjeaa

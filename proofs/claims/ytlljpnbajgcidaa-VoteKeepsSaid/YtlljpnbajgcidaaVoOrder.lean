/- VoteOrder: the walk. Printed by gen_vote.py. -/
import Derived.Test.YtlljpnbajgcidaaVo26
import Derived.Deep.DeepCutAuto
namespace Go.Proofs.Ytlljpnbajgcidaa
open Go.RowKit Go.Shelf

theorem castRel_code {S S' : List ByteArray} {V V' : List Bal} {b : Bal} {c : Int} (h : CastRel S V b S' V' c) : ((c = 1 ∨ c = 44) ∧ S' = [] ∧ V' = []) ∨ (c = 0 ∧ Taken S V b S' V') := by
  rcases h.cases with ⟨_, h1, h2, h⟩ | ⟨_, _, h1, h2, h⟩ | h
  · exact .inl ⟨.inl h, h1, h2⟩
  · exact .inl ⟨.inr h, h1, h2⟩
  · exact .inr h

set_option maxRecDepth 100000 in
set_option maxHeartbeats 4000000 in
theorem voteOrder_walk (w : World) (v : Value) (x : List ByteArray × List Bal) (hx : SnapRep w v x) (va : Value) (a : Bal) (ha : BalRep w va a) (vb : Value) (b : Bal) (hb : BalRep w vb b) :
    Calls Try.prog 4 #[v, va, vb] w fun e w' => e = .returned (.bool true) ∧ Below w.heap.size w w' := by
  obtain ⟨pS, pV, cS, cV, n1, n2, S, V, rfl, l1, l2, hS, hV, hf⟩ := few_use hx
  obtain rfl := ha
  obtain rfl := hb
  have KF := Lib.hid hf
  have HS0 := Lib.hid hS
  have HV0 := Lib.hid hV
  clear hx hf hS hV
  obtain ⟨a1, a2, a3⟩ := a
  obtain ⟨b1, b2, b3⟩ := b
  have R3 := Lib.hid (((RowAt.new w #[.slice pS n1 cS, .slice pV n2 cV] 25).alloc (balO (a1, a2, a3))).alloc (balO (b1, b2, b3)))
  have R4 := Lib.hid ((RowAt.new' (w.alloc (.cells #[.slice pS n1 cS, .slice pV n2 cV] 25)) #[.string a1, .string a2, .bool a3] 29 (k := w.heap.size + 1) (by simp)).alloc (balO (b1, b2, b3)))
  have R5 := Lib.hid (RowAt.new' ((w.alloc (.cells #[.slice pS n1 cS, .slice pV n2 cV] 25)).alloc (balO (a1, a2, a3))) #[.string b1, .string b2, .bool b3] 29 (k := w.heap.size + 2) (by simp))
  have HB := Lib.hid ((belowA2 w (.cells #[.slice pS n1 cS, .slice pV n2 cV] 25) (balO (a1, a2, a3))).alloc (by simp; omega) (balO (b1, b2, b3)))
  go_enter Try.func4, Try.ntmps4
  go_upto_region 1 with (fail)
  obtain ⟨x0, x1, xf0, xf1⟩ := R3.out.c2
  go_upto_region 2 with (go_at_call 12; refine (KF.out _).mono ?_; rintro e w2 ⟨rfl, hb⟩; (replace R3 := Lib.hid (R3.out.belowS hb); replace R4 := Lib.hid (R4.out.belowS hb); replace R5 := Lib.hid (R5.out.belowS hb); replace HB := Lib.hid (HB.out.trans (hb.mono HB.out.size)); clear hb); clear x0 x1 xf0 xf1; obtain ⟨x0, x1, xf0, xf1⟩ := R3.out.c2)
  clear x0 x1 xf0 xf1
  replace R3 := Lib.hid ((R3.out.set 0 (.slice pS S.length cS) rfl).set 1 (.slice pV V.length cV) rfl)
  replace R4 := Lib.hid ((R4.out.other ⟨w.heap.size, 0, none⟩ (.slice pS S.length cS) (by simp)).other ⟨w.heap.size, 1, none⟩ (.slice pV V.length cV) (by simp))
  replace R5 := Lib.hid ((R5.out.other ⟨w.heap.size, 0, none⟩ (.slice pS S.length cS) (by simp)).other ⟨w.heap.size, 1, none⟩ (.slice pV V.length cV) (by simp))
  replace HB := Lib.hid ((HB.out.setCell (p := ⟨w.heap.size, 0, none⟩) (Nat.le_refl _) (.slice pS S.length cS)).setCell (p := ⟨w.heap.size, 1, none⟩) (Nat.le_refl _) (.slice pV V.length cV))
  generalize (w2.setCell ⟨w.heap.size, 0, none⟩ (.slice pS S.length cS)).setCell ⟨w.heap.size, 1, none⟩ (.slice pV V.length cV) = w3 at *
  have HS := Lib.hid (HS0.out.below HB.out (Nat.le_refl _))
  have HV := Lib.hid (HV0.out.below HB.out (Nat.le_refl _))
  clear HS0 HV0 KF
  obtain ⟨p0, p1, pf0, pf1⟩ := R3.out.c2
  obtain ⟨q0, q1, q2, qf0, qf1, qf2⟩ := R4.out.c3
  have KC := Lib.hid (cast_any _ _ S V (a1, a2, a3) _ HS.out HV.out (by omega) (by omega))
  go_upto_region 3 with (fail)
  refine KC.out.mono ?_
  intro e w4a hp
  obtain ⟨pX, cX, qX, dX, X, VX, cx, rfl, CX, HX, HVX, hb⟩ := hp.parts2
  have hlX := castRel_len CX.out (by omega) (by omega)
  (replace R3 := Lib.hid (R3.out.belowS hb); replace R4 := Lib.hid (R4.out.belowS hb); replace R5 := Lib.hid (R5.out.belowS hb); replace HS := Lib.hid (HS.out.below hb (Nat.le_refl _)); replace HV := Lib.hid (HV.out.below hb (Nat.le_refl _)); replace HB := Lib.hid (HB.out.trans (hb.mono HB.out.size)); clear hb)
  clear hp KC p0 p1 pf0 pf1 q0 q1 q2 qf0 qf1 qf2
  go_upto_region 3 with (fail)
  (replace R3 := Lib.hid (R3.out.alloc (.cells #[.slice pX X.length cX, .slice qX VX.length dX] 25)); replace R4 := Lib.hid (R4.out.alloc (.cells #[.slice pX X.length cX, .slice qX VX.length dX] 25)); replace R5 := Lib.hid (R5.out.alloc (.cells #[.slice pX X.length cX, .slice qX VX.length dX] 25)); replace HS := Lib.hid (HS.out.below ((Below.refl (w4a).heap.size (w4a)).alloc (Nat.le_refl _) (.cells #[.slice pX X.length cX, .slice qX VX.length dX] 25)) (Nat.le_refl _)); replace HV := Lib.hid (HV.out.below ((Below.refl (w4a).heap.size (w4a)).alloc (Nat.le_refl _) (.cells #[.slice pX X.length cX, .slice qX VX.length dX] 25)) (Nat.le_refl _)); replace HX := Lib.hid (HX.out.below ((Below.refl (w4a).heap.size (w4a)).alloc (Nat.le_refl _) (.cells #[.slice pX X.length cX, .slice qX VX.length dX] 25)) (Nat.le_refl _)); replace HVX := Lib.hid (HVX.out.below ((Below.refl (w4a).heap.size (w4a)).alloc (Nat.le_refl _) (.cells #[.slice pX X.length cX, .slice qX VX.length dX] 25)) (Nat.le_refl _)); replace HB := Lib.hid (HB.out.alloc HB.out.size (.cells #[.slice pX X.length cX, .slice qX VX.length dX] 25)))
  have R7 := Lib.hid (RowAt.new w4a #[.slice pX X.length cX, .slice qX VX.length dX] 25)
  generalize w4a.alloc (.cells #[.slice pX X.length cX, .slice qX VX.length dX] 25) = w4 at *
  generalize w4a.heap.size = k7 at *
  obtain ⟨p0, p1, pf0, pf1⟩ := R3.out.c2
  obtain ⟨q0, q1, q2, qf0, qf1, qf2⟩ := R5.out.c3
  have KC := Lib.hid (cast_any _ _ S V (b1, b2, b3) _ HS.out HV.out (by omega) (by omega))
  go_upto_region 4 with (fail)
  refine KC.out.mono ?_
  intro e w5a hp
  obtain ⟨pY, cY, qY, dY, Y, VY, cy, rfl, CY, HY, HVY, hb⟩ := hp.parts2
  have hlY := castRel_len CY.out (by omega) (by omega)
  (replace R3 := Lib.hid (R3.out.belowS hb); replace R4 := Lib.hid (R4.out.belowS hb); replace R5 := Lib.hid (R5.out.belowS hb); replace R7 := Lib.hid (R7.out.belowS hb); replace HS := Lib.hid (HS.out.below hb (Nat.le_refl _)); replace HV := Lib.hid (HV.out.below hb (Nat.le_refl _)); replace HX := Lib.hid (HX.out.below hb (Nat.le_refl _)); replace HVX := Lib.hid (HVX.out.below hb (Nat.le_refl _)); replace HB := Lib.hid (HB.out.trans (hb.mono HB.out.size)); clear hb)
  clear hp KC p0 p1 pf0 pf1 q0 q1 q2 qf0 qf1 qf2
  go_upto_region 4 with (fail)
  (replace R3 := Lib.hid (R3.out.alloc (.cells #[.slice pY Y.length cY, .slice qY VY.length dY] 25)); replace R4 := Lib.hid (R4.out.alloc (.cells #[.slice pY Y.length cY, .slice qY VY.length dY] 25)); replace R5 := Lib.hid (R5.out.alloc (.cells #[.slice pY Y.length cY, .slice qY VY.length dY] 25)); replace R7 := Lib.hid (R7.out.alloc (.cells #[.slice pY Y.length cY, .slice qY VY.length dY] 25)); replace HS := Lib.hid (HS.out.below ((Below.refl (w5a).heap.size (w5a)).alloc (Nat.le_refl _) (.cells #[.slice pY Y.length cY, .slice qY VY.length dY] 25)) (Nat.le_refl _)); replace HV := Lib.hid (HV.out.below ((Below.refl (w5a).heap.size (w5a)).alloc (Nat.le_refl _) (.cells #[.slice pY Y.length cY, .slice qY VY.length dY] 25)) (Nat.le_refl _)); replace HX := Lib.hid (HX.out.below ((Below.refl (w5a).heap.size (w5a)).alloc (Nat.le_refl _) (.cells #[.slice pY Y.length cY, .slice qY VY.length dY] 25)) (Nat.le_refl _)); replace HVX := Lib.hid (HVX.out.below ((Below.refl (w5a).heap.size (w5a)).alloc (Nat.le_refl _) (.cells #[.slice pY Y.length cY, .slice qY VY.length dY] 25)) (Nat.le_refl _)); replace HY := Lib.hid (HY.out.below ((Below.refl (w5a).heap.size (w5a)).alloc (Nat.le_refl _) (.cells #[.slice pY Y.length cY, .slice qY VY.length dY] 25)) (Nat.le_refl _)); replace HVY := Lib.hid (HVY.out.below ((Below.refl (w5a).heap.size (w5a)).alloc (Nat.le_refl _) (.cells #[.slice pY Y.length cY, .slice qY VY.length dY] 25)) (Nat.le_refl _)); replace HB := Lib.hid (HB.out.alloc HB.out.size (.cells #[.slice pY Y.length cY, .slice qY VY.length dY] 25)))
  have R9 := Lib.hid (RowAt.new w5a #[.slice pY Y.length cY, .slice qY VY.length dY] 25)
  generalize w5a.alloc (.cells #[.slice pY Y.length cY, .slice qY VY.length dY] 25) = w5 at *
  generalize w5a.heap.size = k9 at *
  obtain ⟨p0, p1, pf0, pf1⟩ := R3.out.c2
  obtain ⟨s0, s1, s2, sf0, sf1, sf2⟩ := R4.out.c3
  obtain ⟨t0, t1, t2, tf0, tf1, tf2⟩ := R5.out.c3
  obtain ⟨x0, x1, xf0, xf1⟩ := R7.out.c2
  obtain ⟨y0, y1, yf0, yf1⟩ := R9.out.c2
  rcases castRel_code CX.out with ⟨hc, _, _⟩ | ⟨rfl, TX⟩
  · have hc' : ¬ cx = 0 := by omega
    go_wp2_with (go_at_call 8; refine (alive_any _).mono ?_; rintro e wz ⟨rfl, hb⟩; have HZ := Lib.hid (HB.out.trans (hb.mono HB.out.size)); clear hb)
    go_ret
    exact ⟨rfl, HZ.out⟩
  rcases castRel_code CY.out with ⟨hc, _, _⟩ | ⟨rfl, TY⟩
  · have hc' : ¬ cy = 0 := by omega
    go_wp2_with (go_at_call 8; refine (alive_any _).mono ?_; rintro e wz ⟨rfl, hb⟩; have HZ := Lib.hid (HB.out.trans (hb.mono HB.out.size)); clear hb)
    go_ret
    exact ⟨rfl, HZ.out⟩
  by_cases e2 : a2 = b2
  · have q2 := seq_true e2
    have E2 := Lib.hid e2
    clear e2
    go_wp2_with (go_at_call 8; refine (alive_any _).mono ?_; rintro e wz ⟨rfl, hb⟩; have HZ := Lib.hid (HB.out.trans (hb.mono HB.out.size)); clear hb)
    go_ret
    exact ⟨rfl, HZ.out⟩
  have q2 := seq_false e2
  have E2 := Lib.hid e2
  clear e2
  by_cases g4 : X.length = S.length
  · have q4 : ((X.length : Int) != (S.length : Int)) = false := by simp [g4]
    have G4 := Lib.hid g4
    clear g4
    by_cases g5 : Y.length = S.length
    · have q5 : ((Y.length : Int) != (S.length : Int)) = false := by simp [g5]
      have G5 := Lib.hid g5
      clear g5
      have TX := Lib.hid TX
      have TY := Lib.hid TY
      have hnz : w.heap.size ≤ w5.heap.size := HB.out.size
      go_upto_region 6 with (fail)
      clear p0 p1 pf0 pf1 s0 s1 s2 sf0 sf1 sf2 t0 t1 t2 tf0 tf1 tf2 x0 x1 xf0 xf1 y0 y1 yf0 yf1 q2 q4 q5
      obtain ⟨p0, p1, pf0, pf1⟩ := R7.out.c2
      obtain ⟨q0, q1, q2, qf0, qf1, qf2⟩ := R5.out.c3
      have KC := Lib.hid (cast_any _ _ X VX (b1, b2, b3) _ HX.out HVX.out (by omega) (by omega))
      go_upto_region 7 with (fail)
      refine KC.out.mono ?_
      intro e w6a hp
      obtain ⟨pZ, cZ, qZ, dZ, Z, VZ, cz, rfl, CZ, HZ, HVZ, hb⟩ := hp.parts2
      have hlZ := castRel_len CZ.out (by omega) (by omega)
      (replace R3 := Lib.hid (R3.out.belowS hb); replace R4 := Lib.hid (R4.out.belowS hb); replace R5 := Lib.hid (R5.out.belowS hb); replace R7 := Lib.hid (R7.out.belowS hb); replace R9 := Lib.hid (R9.out.belowS hb); replace HS := Lib.hid (HS.out.below hb (Nat.le_refl _)); replace HV := Lib.hid (HV.out.below hb (Nat.le_refl _)); replace HX := Lib.hid (HX.out.below hb (Nat.le_refl _)); replace HVX := Lib.hid (HVX.out.below hb (Nat.le_refl _)); replace HY := Lib.hid (HY.out.below hb (Nat.le_refl _)); replace HVY := Lib.hid (HVY.out.below hb (Nat.le_refl _)); replace HB := Lib.hid (HB.out.trans (hb.mono HB.out.size)); clear hb)
      clear hp KC p0 p1 pf0 pf1 q0 q1 q2 qf0 qf1 qf2
      go_upto_region 7 with (fail)
      (replace R3 := Lib.hid (R3.out.alloc (.cells #[.slice pZ Z.length cZ, .slice qZ VZ.length dZ] 25)); replace R4 := Lib.hid (R4.out.alloc (.cells #[.slice pZ Z.length cZ, .slice qZ VZ.length dZ] 25)); replace R5 := Lib.hid (R5.out.alloc (.cells #[.slice pZ Z.length cZ, .slice qZ VZ.length dZ] 25)); replace R7 := Lib.hid (R7.out.alloc (.cells #[.slice pZ Z.length cZ, .slice qZ VZ.length dZ] 25)); replace R9 := Lib.hid (R9.out.alloc (.cells #[.slice pZ Z.length cZ, .slice qZ VZ.length dZ] 25)); replace HS := Lib.hid (HS.out.below ((Below.refl (w6a).heap.size (w6a)).alloc (Nat.le_refl _) (.cells #[.slice pZ Z.length cZ, .slice qZ VZ.length dZ] 25)) (Nat.le_refl _)); replace HV := Lib.hid (HV.out.below ((Below.refl (w6a).heap.size (w6a)).alloc (Nat.le_refl _) (.cells #[.slice pZ Z.length cZ, .slice qZ VZ.length dZ] 25)) (Nat.le_refl _)); replace HX := Lib.hid (HX.out.below ((Below.refl (w6a).heap.size (w6a)).alloc (Nat.le_refl _) (.cells #[.slice pZ Z.length cZ, .slice qZ VZ.length dZ] 25)) (Nat.le_refl _)); replace HVX := Lib.hid (HVX.out.below ((Below.refl (w6a).heap.size (w6a)).alloc (Nat.le_refl _) (.cells #[.slice pZ Z.length cZ, .slice qZ VZ.length dZ] 25)) (Nat.le_refl _)); replace HY := Lib.hid (HY.out.below ((Below.refl (w6a).heap.size (w6a)).alloc (Nat.le_refl _) (.cells #[.slice pZ Z.length cZ, .slice qZ VZ.length dZ] 25)) (Nat.le_refl _)); replace HVY := Lib.hid (HVY.out.below ((Below.refl (w6a).heap.size (w6a)).alloc (Nat.le_refl _) (.cells #[.slice pZ Z.length cZ, .slice qZ VZ.length dZ] 25)) (Nat.le_refl _)); replace HZ := Lib.hid (HZ.out.below ((Below.refl (w6a).heap.size (w6a)).alloc (Nat.le_refl _) (.cells #[.slice pZ Z.length cZ, .slice qZ VZ.length dZ] 25)) (Nat.le_refl _)); replace HVZ := Lib.hid (HVZ.out.below ((Below.refl (w6a).heap.size (w6a)).alloc (Nat.le_refl _) (.cells #[.slice pZ Z.length cZ, .slice qZ VZ.length dZ] 25)) (Nat.le_refl _)); replace HB := Lib.hid (HB.out.alloc HB.out.size (.cells #[.slice pZ Z.length cZ, .slice qZ VZ.length dZ] 25)))
      have R11 := Lib.hid (RowAt.new w6a #[.slice pZ Z.length cZ, .slice qZ VZ.length dZ] 25)
      generalize w6a.alloc (.cells #[.slice pZ Z.length cZ, .slice qZ VZ.length dZ] 25) = w6 at *
      generalize w6a.heap.size = k11 at *
      obtain ⟨p0, p1, pf0, pf1⟩ := R9.out.c2
      obtain ⟨q0, q1, q2, qf0, qf1, qf2⟩ := R4.out.c3
      have KC := Lib.hid (cast_any _ _ Y VY (a1, a2, a3) _ HY.out HVY.out (by omega) (by omega))
      go_upto_region 8 with (fail)
      refine KC.out.mono ?_
      intro e w7a hp
      obtain ⟨pU, cU, qU, dU, U, VU, cu, rfl, CU, HU, HVU, hb⟩ := hp.parts2
      have hlU := castRel_len CU.out (by omega) (by omega)
      (replace R3 := Lib.hid (R3.out.belowS hb); replace R4 := Lib.hid (R4.out.belowS hb); replace R5 := Lib.hid (R5.out.belowS hb); replace R7 := Lib.hid (R7.out.belowS hb); replace R9 := Lib.hid (R9.out.belowS hb); replace R11 := Lib.hid (R11.out.belowS hb); replace HS := Lib.hid (HS.out.below hb (Nat.le_refl _)); replace HV := Lib.hid (HV.out.below hb (Nat.le_refl _)); replace HX := Lib.hid (HX.out.below hb (Nat.le_refl _)); replace HVX := Lib.hid (HVX.out.below hb (Nat.le_refl _)); replace HY := Lib.hid (HY.out.below hb (Nat.le_refl _)); replace HVY := Lib.hid (HVY.out.below hb (Nat.le_refl _)); replace HZ := Lib.hid (HZ.out.below hb (Nat.le_refl _)); replace HVZ := Lib.hid (HVZ.out.below hb (Nat.le_refl _)); replace HB := Lib.hid (HB.out.trans (hb.mono HB.out.size)); clear hb)
      clear hp KC p0 p1 pf0 pf1 q0 q1 q2 qf0 qf1 qf2
      go_upto_region 8 with (fail)
      (replace R3 := Lib.hid (R3.out.alloc (.cells #[.slice pU U.length cU, .slice qU VU.length dU] 25)); replace R4 := Lib.hid (R4.out.alloc (.cells #[.slice pU U.length cU, .slice qU VU.length dU] 25)); replace R5 := Lib.hid (R5.out.alloc (.cells #[.slice pU U.length cU, .slice qU VU.length dU] 25)); replace R7 := Lib.hid (R7.out.alloc (.cells #[.slice pU U.length cU, .slice qU VU.length dU] 25)); replace R9 := Lib.hid (R9.out.alloc (.cells #[.slice pU U.length cU, .slice qU VU.length dU] 25)); replace R11 := Lib.hid (R11.out.alloc (.cells #[.slice pU U.length cU, .slice qU VU.length dU] 25)); replace HS := Lib.hid (HS.out.below ((Below.refl (w7a).heap.size (w7a)).alloc (Nat.le_refl _) (.cells #[.slice pU U.length cU, .slice qU VU.length dU] 25)) (Nat.le_refl _)); replace HV := Lib.hid (HV.out.below ((Below.refl (w7a).heap.size (w7a)).alloc (Nat.le_refl _) (.cells #[.slice pU U.length cU, .slice qU VU.length dU] 25)) (Nat.le_refl _)); replace HX := Lib.hid (HX.out.below ((Below.refl (w7a).heap.size (w7a)).alloc (Nat.le_refl _) (.cells #[.slice pU U.length cU, .slice qU VU.length dU] 25)) (Nat.le_refl _)); replace HVX := Lib.hid (HVX.out.below ((Below.refl (w7a).heap.size (w7a)).alloc (Nat.le_refl _) (.cells #[.slice pU U.length cU, .slice qU VU.length dU] 25)) (Nat.le_refl _)); replace HY := Lib.hid (HY.out.below ((Below.refl (w7a).heap.size (w7a)).alloc (Nat.le_refl _) (.cells #[.slice pU U.length cU, .slice qU VU.length dU] 25)) (Nat.le_refl _)); replace HVY := Lib.hid (HVY.out.below ((Below.refl (w7a).heap.size (w7a)).alloc (Nat.le_refl _) (.cells #[.slice pU U.length cU, .slice qU VU.length dU] 25)) (Nat.le_refl _)); replace HZ := Lib.hid (HZ.out.below ((Below.refl (w7a).heap.size (w7a)).alloc (Nat.le_refl _) (.cells #[.slice pU U.length cU, .slice qU VU.length dU] 25)) (Nat.le_refl _)); replace HVZ := Lib.hid (HVZ.out.below ((Below.refl (w7a).heap.size (w7a)).alloc (Nat.le_refl _) (.cells #[.slice pU U.length cU, .slice qU VU.length dU] 25)) (Nat.le_refl _)); replace HU := Lib.hid (HU.out.below ((Below.refl (w7a).heap.size (w7a)).alloc (Nat.le_refl _) (.cells #[.slice pU U.length cU, .slice qU VU.length dU] 25)) (Nat.le_refl _)); replace HVU := Lib.hid (HVU.out.below ((Below.refl (w7a).heap.size (w7a)).alloc (Nat.le_refl _) (.cells #[.slice pU U.length cU, .slice qU VU.length dU] 25)) (Nat.le_refl _)); replace HB := Lib.hid (HB.out.alloc HB.out.size (.cells #[.slice pU U.length cU, .slice qU VU.length dU] 25)))
      have R13 := Lib.hid (RowAt.new w7a #[.slice pU U.length cU, .slice qU VU.length dU] 25)
      generalize w7a.alloc (.cells #[.slice pU U.length cU, .slice qU VU.length dU] 25) = w7 at *
      generalize w7a.heap.size = k13 at *
      obtain ⟨x0, x1, xf0, xf1⟩ := R11.out.c2
      obtain ⟨y0, y1, yf0, yf1⟩ := R13.out.c2
      obtain ⟨f1, f2, f3, f4⟩ := taken_order TX.out TY.out E2.out G4.out G5.out CZ.out CU.out
      have KL := fun W h1 h2 h3 h4 => like_any (.slice pZ Z.length cZ) (.slice qZ VZ.length dZ) (.slice pU U.length cU) (.slice qU VU.length dU) Z VZ U VU W h1 h2 h3 h4
      rw [likeL_true ⟨f3, f4⟩] at KL
      subst f1 f2
      have F3 := Lib.hid f3
      clear f3 f4
      have KL := Lib.hid KL
      go_wp2_with (first
        | (go_at_call 8; refine (alive_any _).mono ?_; rintro e wz ⟨rfl, hb⟩; (replace R11 := Lib.hid (R11.out.belowS hb); replace R13 := Lib.hid (R13.out.belowS hb); replace HZ := Lib.hid (HZ.out.below hb (Nat.le_refl _)); replace HVZ := Lib.hid (HVZ.out.below hb (Nat.le_refl _)); replace HU := Lib.hid (HU.out.below hb (Nat.le_refl _)); replace HVU := Lib.hid (HVU.out.below hb (Nat.le_refl _)); replace HB := Lib.hid (HB.out.trans (hb.mono HB.out.size)); clear hb); clear x0 x1 xf0 xf1 y0 y1 yf0 yf1; obtain ⟨x0, x1, xf0, xf1⟩ := R11.out.c2; obtain ⟨y0, y1, yf0, yf1⟩ := R13.out.c2)
        | (go_at_call 13; refine (KL.out _ HZ.out HVZ.out HU.out HVU.out).mono ?_; rintro e wz ⟨rfl, hb⟩; have HE := Lib.hid (HB.out.trans (hb.mono HB.out.size)); clear hb))
      go_ret
      exact ⟨rfl, HE.out⟩
    · have q5 : ((Y.length : Int) != (S.length : Int)) = true := by simp; omega
      go_wp2_with (go_at_call 8; refine (alive_any _).mono ?_; rintro e wz ⟨rfl, hb⟩; have HZ := Lib.hid (HB.out.trans (hb.mono HB.out.size)); clear hb)
      go_ret
      exact ⟨rfl, HZ.out⟩
  · have q4 : ((X.length : Int) != (S.length : Int)) = true := by simp; omega
    go_wp2_with (go_at_call 8; refine (alive_any _).mono ?_; rintro e wz ⟨rfl, hb⟩; have HZ := Lib.hid (HB.out.trans (hb.mono HB.out.size)); clear hb)
    go_ret
    exact ⟨rfl, HZ.out⟩
end Go.Proofs.Ytlljpnbajgcidaa

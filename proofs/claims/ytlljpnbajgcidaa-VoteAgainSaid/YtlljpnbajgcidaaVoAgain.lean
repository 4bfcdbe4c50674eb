/- VoteAgain: the walk. Printed by gen_vote2.py. -/
import Derived.Test.YtlljpnbajgcidaaVoOrder
import Derived.Deep.DeepCutAuto
namespace Go.Proofs.Ytlljpnbajgcidaa
open Go.RowKit Go.Shelf

set_option maxRecDepth 100000 in
set_option maxHeartbeats 4000000 in
theorem voteAgain_walk (w : World) (v : Value) (x : List ByteArray × List Bal) (hx : SnapRep w v x) (vb : Value) (b : Bal) (hb : BalRep w vb b) :
    Calls Try.prog 6 #[v, vb] w fun e w' => e = .returned (.bool true) ∧ Below w.heap.size w w' := by
  obtain ⟨pS, pV, cS, cV, n1, n2, S, V, rfl, l1, l2, hS, hV, hf⟩ := few_use hx
  obtain rfl := hb
  have KF := Lib.hid hf
  have HS0 := Lib.hid hS
  have HV0 := Lib.hid hV
  clear hx hf hS hV
  obtain ⟨b1, b2, b3⟩ := b
  have R3 := Lib.hid ((RowAt.new w #[.slice pS n1 cS, .slice pV n2 cV] 25).alloc (balO (b1, b2, b3)))
  have R4 := Lib.hid (RowAt.new' (w.alloc (.cells #[.slice pS n1 cS, .slice pV n2 cV] 25)) #[.string b1, .string b2, .bool b3] 29 (k := w.heap.size + 1) (by simp))
  have HB := Lib.hid (belowA2 w (.cells #[.slice pS n1 cS, .slice pV n2 cV] 25) (balO (b1, b2, b3)))
  go_enter Try.func6, Try.ntmps6
  go_upto_region 1 with (fail)
  obtain ⟨x0, x1, xf0, xf1⟩ := R3.out.c2
  go_upto_region 2 with (go_at_call 12; refine (KF.out _).mono ?_; rintro e w2 ⟨rfl, hb⟩; (replace R3 := Lib.hid (R3.out.belowS hb); replace R4 := Lib.hid (R4.out.belowS hb); replace HB := Lib.hid (HB.out.trans (hb.mono HB.out.size)); clear hb); clear x0 x1 xf0 xf1; obtain ⟨x0, x1, xf0, xf1⟩ := R3.out.c2)
  clear x0 x1 xf0 xf1
  replace R3 := Lib.hid ((R3.out.set 0 (.slice pS S.length cS) rfl).set 1 (.slice pV V.length cV) rfl)
  replace R4 := Lib.hid ((R4.out.other ⟨w.heap.size, 0, none⟩ (.slice pS S.length cS) (by simp)).other ⟨w.heap.size, 1, none⟩ (.slice pV V.length cV) (by simp))
  replace HB := Lib.hid ((HB.out.setCell (p := ⟨w.heap.size, 0, none⟩) (Nat.le_refl _) (.slice pS S.length cS)).setCell (p := ⟨w.heap.size, 1, none⟩) (Nat.le_refl _) (.slice pV V.length cV))
  generalize (w2.setCell ⟨w.heap.size, 0, none⟩ (.slice pS S.length cS)).setCell ⟨w.heap.size, 1, none⟩ (.slice pV V.length cV) = w3 at *
  have HS := Lib.hid (HS0.out.below HB.out (Nat.le_refl _))
  have HV := Lib.hid (HV0.out.below HB.out (Nat.le_refl _))
  clear HS0 HV0 KF
  obtain ⟨p0, p1, pf0, pf1⟩ := R3.out.c2
  obtain ⟨q0, q1, q2, qf0, qf1, qf2⟩ := R4.out.c3
  have KC := Lib.hid (cast_any _ _ S V (b1, b2, b3) _ HS.out HV.out (by omega) (by omega))
  go_upto_region 3 with (fail)
  refine KC.out.mono ?_
  intro e w4a hp
  obtain ⟨pX, cX, qX, dX, X, VX, cx, rfl, CX, HX, HVX, hb⟩ := hp.parts2
  have hlX := castRel_len CX.out (by omega) (by omega)
  (replace R3 := Lib.hid (R3.out.belowS hb); replace R4 := Lib.hid (R4.out.belowS hb); replace HS := Lib.hid (HS.out.below hb (Nat.le_refl _)); replace HV := Lib.hid (HV.out.below hb (Nat.le_refl _)); replace HB := Lib.hid (HB.out.trans (hb.mono HB.out.size)); clear hb)
  clear hp KC p0 p1 pf0 pf1 q0 q1 q2 qf0 qf1 qf2
  go_upto_region 3 with (fail)
  (replace R3 := Lib.hid (R3.out.alloc (.cells #[.slice pX X.length cX, .slice qX VX.length dX] 25)); replace R4 := Lib.hid (R4.out.alloc (.cells #[.slice pX X.length cX, .slice qX VX.length dX] 25)); replace HS := Lib.hid (HS.out.below ((Below.refl (w4a).heap.size (w4a)).alloc (Nat.le_refl _) (.cells #[.slice pX X.length cX, .slice qX VX.length dX] 25)) (Nat.le_refl _)); replace HV := Lib.hid (HV.out.below ((Below.refl (w4a).heap.size (w4a)).alloc (Nat.le_refl _) (.cells #[.slice pX X.length cX, .slice qX VX.length dX] 25)) (Nat.le_refl _)); replace HX := Lib.hid (HX.out.below ((Below.refl (w4a).heap.size (w4a)).alloc (Nat.le_refl _) (.cells #[.slice pX X.length cX, .slice qX VX.length dX] 25)) (Nat.le_refl _)); replace HVX := Lib.hid (HVX.out.below ((Below.refl (w4a).heap.size (w4a)).alloc (Nat.le_refl _) (.cells #[.slice pX X.length cX, .slice qX VX.length dX] 25)) (Nat.le_refl _)); replace HB := Lib.hid (HB.out.alloc HB.out.size (.cells #[.slice pX X.length cX, .slice qX VX.length dX] 25)))
  have R5 := Lib.hid (RowAt.new w4a #[.slice pX X.length cX, .slice qX VX.length dX] 25)
  generalize w4a.alloc (.cells #[.slice pX X.length cX, .slice qX VX.length dX] 25) = w4 at *
  generalize w4a.heap.size = k5 at *
  have hnil : ∀ W : World, RS W (.slice none 0 0) [] := fun W => .inl ⟨rfl, rfl⟩
  have hnilB : ∀ W : World, RB W (.slice none 0 0) [] := fun W => .inl ⟨rfl, rfl⟩
  rcases castRel_code CX.out with ⟨hc, rfl, rfl⟩ | ⟨rfl, TX⟩
  · have hc' : ¬ cx = 0 := by omega
    have KL := fun W h1 h2 => like_any (.slice pX 0 cX) (.slice qX 0 dX) (.slice none 0 0) (.slice none 0 0) [] [] [] [] W h1 h2 (hnil W) (hnilB W)
    rw [likeL_true ⟨rfl, rfl⟩] at KL
    have KL := Lib.hid KL
    simp only [List.length_nil] at *
    go_upto_region 4 with (fail)
    go_wp2_with (first
      | (go_at_call 8; refine (alive_any _).mono ?_; rintro e wz ⟨rfl, hb⟩; (replace R5 := Lib.hid (R5.out.belowS hb); replace HX := Lib.hid (HX.out.below hb (Nat.le_refl _)); replace HVX := Lib.hid (HVX.out.below hb (Nat.le_refl _)); replace HB := Lib.hid (HB.out.trans (hb.mono HB.out.size)); clear hb); obtain ⟨x0, x1, xf0, xf1⟩ := R5.out.c2)
      | (go_at_call 13; refine (KL.out _ HX.out HVX.out).mono ?_; rintro e wz ⟨rfl, hb⟩; have HE := Lib.hid (HB.out.trans (hb.mono HB.out.size)); clear hb))
    go_ret
    exact ⟨rfl, HE.out⟩
  have hrs := TX.1
  have hrx := TX.right
  have TX := Lib.hid TX
  obtain ⟨p0, p1, pf0, pf1⟩ := R5.out.c2
  obtain ⟨q0, q1, q2, qf0, qf1, qf2⟩ := R4.out.c3
  have KC := Lib.hid (cast_any _ _ X VX (b1, b2, b3) _ HX.out HVX.out (by omega) (by omega))
  go_upto_region 6 with (fail)
  refine KC.out.mono ?_
  intro e w6a hp
  obtain ⟨pY, cY, qY, dY, Y, VY, cy, rfl, CY, HY, HVY, hb⟩ := hp.parts2
  have hlY := castRel_len CY.out (by omega) (by omega)
  (replace R3 := Lib.hid (R3.out.belowS hb); replace R4 := Lib.hid (R4.out.belowS hb); replace R5 := Lib.hid (R5.out.belowS hb); replace HS := Lib.hid (HS.out.below hb (Nat.le_refl _)); replace HV := Lib.hid (HV.out.below hb (Nat.le_refl _)); replace HX := Lib.hid (HX.out.below hb (Nat.le_refl _)); replace HVX := Lib.hid (HVX.out.below hb (Nat.le_refl _)); replace HB := Lib.hid (HB.out.trans (hb.mono HB.out.size)); clear hb)
  clear hp KC p0 p1 pf0 pf1 q0 q1 q2 qf0 qf1 qf2
  go_upto_region 6 with (fail)
  (replace R3 := Lib.hid (R3.out.alloc (.cells #[.slice pY Y.length cY, .slice qY VY.length dY] 25)); replace R4 := Lib.hid (R4.out.alloc (.cells #[.slice pY Y.length cY, .slice qY VY.length dY] 25)); replace R5 := Lib.hid (R5.out.alloc (.cells #[.slice pY Y.length cY, .slice qY VY.length dY] 25)); replace HS := Lib.hid (HS.out.below ((Below.refl (w6a).heap.size (w6a)).alloc (Nat.le_refl _) (.cells #[.slice pY Y.length cY, .slice qY VY.length dY] 25)) (Nat.le_refl _)); replace HV := Lib.hid (HV.out.below ((Below.refl (w6a).heap.size (w6a)).alloc (Nat.le_refl _) (.cells #[.slice pY Y.length cY, .slice qY VY.length dY] 25)) (Nat.le_refl _)); replace HX := Lib.hid (HX.out.below ((Below.refl (w6a).heap.size (w6a)).alloc (Nat.le_refl _) (.cells #[.slice pY Y.length cY, .slice qY VY.length dY] 25)) (Nat.le_refl _)); replace HVX := Lib.hid (HVX.out.below ((Below.refl (w6a).heap.size (w6a)).alloc (Nat.le_refl _) (.cells #[.slice pY Y.length cY, .slice qY VY.length dY] 25)) (Nat.le_refl _)); replace HY := Lib.hid (HY.out.below ((Below.refl (w6a).heap.size (w6a)).alloc (Nat.le_refl _) (.cells #[.slice pY Y.length cY, .slice qY VY.length dY] 25)) (Nat.le_refl _)); replace HVY := Lib.hid (HVY.out.below ((Below.refl (w6a).heap.size (w6a)).alloc (Nat.le_refl _) (.cells #[.slice pY Y.length cY, .slice qY VY.length dY] 25)) (Nat.le_refl _)); replace HB := Lib.hid (HB.out.alloc HB.out.size (.cells #[.slice pY Y.length cY, .slice qY VY.length dY] 25)))
  have R7 := Lib.hid (RowAt.new w6a #[.slice pY Y.length cY, .slice qY VY.length dY] 25)
  generalize w6a.alloc (.cells #[.slice pY Y.length cY, .slice qY VY.length dY] 25) = w6 at *
  generalize w6a.heap.size = k7 at *
  obtain ⟨p0, p1, pf0, pf1⟩ := R5.out.c2
  have KC := close_any _ _ X VX _ HX.out HVX.out (by omega) (by omega)
  rw [rightL_true hrx, if_pos rfl] at KC
  have KC := Lib.hid KC
  go_upto_region 7 with (fail)
  refine KC.out.mono ?_
  rintro e w7a ⟨rfl, hb⟩
  (replace R3 := Lib.hid (R3.out.belowS hb); replace R4 := Lib.hid (R4.out.belowS hb); replace R5 := Lib.hid (R5.out.belowS hb); replace R7 := Lib.hid (R7.out.belowS hb); replace HS := Lib.hid (HS.out.below hb (Nat.le_refl _)); replace HV := Lib.hid (HV.out.below hb (Nat.le_refl _)); replace HX := Lib.hid (HX.out.below hb (Nat.le_refl _)); replace HVX := Lib.hid (HVX.out.below hb (Nat.le_refl _)); replace HY := Lib.hid (HY.out.below hb (Nat.le_refl _)); replace HVY := Lib.hid (HVY.out.below hb (Nat.le_refl _)); replace HB := Lib.hid (HB.out.trans (hb.mono HB.out.size)); clear hb)
  clear KC p0 p1 pf0 pf1
  go_upto_region 7 with (fail)
  (replace R3 := Lib.hid (R3.out.alloc (.cells #[.slice pX X.length cX, .slice none 0 0] 25)); replace R4 := Lib.hid (R4.out.alloc (.cells #[.slice pX X.length cX, .slice none 0 0] 25)); replace R5 := Lib.hid (R5.out.alloc (.cells #[.slice pX X.length cX, .slice none 0 0] 25)); replace R7 := Lib.hid (R7.out.alloc (.cells #[.slice pX X.length cX, .slice none 0 0] 25)); replace HS := Lib.hid (HS.out.below ((Below.refl (w7a).heap.size (w7a)).alloc (Nat.le_refl _) (.cells #[.slice pX X.length cX, .slice none 0 0] 25)) (Nat.le_refl _)); replace HV := Lib.hid (HV.out.below ((Below.refl (w7a).heap.size (w7a)).alloc (Nat.le_refl _) (.cells #[.slice pX X.length cX, .slice none 0 0] 25)) (Nat.le_refl _)); replace HX := Lib.hid (HX.out.below ((Below.refl (w7a).heap.size (w7a)).alloc (Nat.le_refl _) (.cells #[.slice pX X.length cX, .slice none 0 0] 25)) (Nat.le_refl _)); replace HVX := Lib.hid (HVX.out.below ((Below.refl (w7a).heap.size (w7a)).alloc (Nat.le_refl _) (.cells #[.slice pX X.length cX, .slice none 0 0] 25)) (Nat.le_refl _)); replace HY := Lib.hid (HY.out.below ((Below.refl (w7a).heap.size (w7a)).alloc (Nat.le_refl _) (.cells #[.slice pX X.length cX, .slice none 0 0] 25)) (Nat.le_refl _)); replace HVY := Lib.hid (HVY.out.below ((Below.refl (w7a).heap.size (w7a)).alloc (Nat.le_refl _) (.cells #[.slice pX X.length cX, .slice none 0 0] 25)) (Nat.le_refl _)); replace HB := Lib.hid (HB.out.alloc HB.out.size (.cells #[.slice pX X.length cX, .slice none 0 0] 25)))
  have R9 := Lib.hid (RowAt.new w7a #[.slice pX X.length cX, .slice none 0 0] 25)
  generalize w7a.alloc (.cells #[.slice pX X.length cX, .slice none 0 0] 25) = w7 at *
  generalize w7a.heap.size = k9 at *
  obtain ⟨p0, p1, pf0, pf1⟩ := R3.out.c2
  have KC := close_any _ _ S V _ HS.out HV.out (by omega) (by omega)
  rw [rightL_true hrs, if_pos rfl] at KC
  have KC := Lib.hid KC
  go_upto_region 8 with (fail)
  refine KC.out.mono ?_
  rintro e w8a ⟨rfl, hb⟩
  (replace R3 := Lib.hid (R3.out.belowS hb); replace R4 := Lib.hid (R4.out.belowS hb); replace R5 := Lib.hid (R5.out.belowS hb); replace R7 := Lib.hid (R7.out.belowS hb); replace R9 := Lib.hid (R9.out.belowS hb); replace HS := Lib.hid (HS.out.below hb (Nat.le_refl _)); replace HV := Lib.hid (HV.out.below hb (Nat.le_refl _)); replace HX := Lib.hid (HX.out.below hb (Nat.le_refl _)); replace HVX := Lib.hid (HVX.out.below hb (Nat.le_refl _)); replace HY := Lib.hid (HY.out.below hb (Nat.le_refl _)); replace HVY := Lib.hid (HVY.out.below hb (Nat.le_refl _)); replace HB := Lib.hid (HB.out.trans (hb.mono HB.out.size)); clear hb)
  clear KC p0 p1 pf0 pf1
  go_upto_region 8 with (fail)
  (replace R3 := Lib.hid (R3.out.alloc (.cells #[.slice pS S.length cS, .slice none 0 0] 25)); replace R4 := Lib.hid (R4.out.alloc (.cells #[.slice pS S.length cS, .slice none 0 0] 25)); replace R5 := Lib.hid (R5.out.alloc (.cells #[.slice pS S.length cS, .slice none 0 0] 25)); replace R7 := Lib.hid (R7.out.alloc (.cells #[.slice pS S.length cS, .slice none 0 0] 25)); replace R9 := Lib.hid (R9.out.alloc (.cells #[.slice pS S.length cS, .slice none 0 0] 25)); replace HS := Lib.hid (HS.out.below ((Below.refl (w8a).heap.size (w8a)).alloc (Nat.le_refl _) (.cells #[.slice pS S.length cS, .slice none 0 0] 25)) (Nat.le_refl _)); replace HV := Lib.hid (HV.out.below ((Below.refl (w8a).heap.size (w8a)).alloc (Nat.le_refl _) (.cells #[.slice pS S.length cS, .slice none 0 0] 25)) (Nat.le_refl _)); replace HX := Lib.hid (HX.out.below ((Below.refl (w8a).heap.size (w8a)).alloc (Nat.le_refl _) (.cells #[.slice pS S.length cS, .slice none 0 0] 25)) (Nat.le_refl _)); replace HVX := Lib.hid (HVX.out.below ((Below.refl (w8a).heap.size (w8a)).alloc (Nat.le_refl _) (.cells #[.slice pS S.length cS, .slice none 0 0] 25)) (Nat.le_refl _)); replace HY := Lib.hid (HY.out.below ((Below.refl (w8a).heap.size (w8a)).alloc (Nat.le_refl _) (.cells #[.slice pS S.length cS, .slice none 0 0] 25)) (Nat.le_refl _)); replace HVY := Lib.hid (HVY.out.below ((Below.refl (w8a).heap.size (w8a)).alloc (Nat.le_refl _) (.cells #[.slice pS S.length cS, .slice none 0 0] 25)) (Nat.le_refl _)); replace HB := Lib.hid (HB.out.alloc HB.out.size (.cells #[.slice pS S.length cS, .slice none 0 0] 25)))
  have R11 := Lib.hid (RowAt.new w8a #[.slice pS S.length cS, .slice none 0 0] 25)
  generalize w8a.alloc (.cells #[.slice pS S.length cS, .slice none 0 0] 25) = w8 at *
  generalize w8a.heap.size = k11 at *
  clear hrs hrx
  obtain ⟨p0, p1, pf0, pf1⟩ := R9.out.c2
  go_upto_region 10 with (go_at_call 8; refine (alive_any _).mono ?_; rintro e wz ⟨rfl, hb⟩; (replace R3 := Lib.hid (R3.out.belowS hb); replace R4 := Lib.hid (R4.out.belowS hb); replace R5 := Lib.hid (R5.out.belowS hb); replace R7 := Lib.hid (R7.out.belowS hb); replace R9 := Lib.hid (R9.out.belowS hb); replace R11 := Lib.hid (R11.out.belowS hb); replace HS := Lib.hid (HS.out.below hb (Nat.le_refl _)); replace HV := Lib.hid (HV.out.below hb (Nat.le_refl _)); replace HX := Lib.hid (HX.out.below hb (Nat.le_refl _)); replace HVX := Lib.hid (HVX.out.below hb (Nat.le_refl _)); replace HY := Lib.hid (HY.out.below hb (Nat.le_refl _)); replace HVY := Lib.hid (HVY.out.below hb (Nat.le_refl _)); replace HB := Lib.hid (HB.out.trans (hb.mono HB.out.size)); clear hb))
  clear p0 p1 pf0 pf1
  have hsz := hlX.1
  rcases taken_again TX.out CY.out with ⟨hne, rfl, rfl, rfl⟩ | ⟨heq, rfl, rfl, rfl, hxs, hcnt⟩
  · have q : ((X.length : Int) != (S.length : Int)) = true := by simp; omega
    clear hne
    have KL := fun W h1 h2 => like_any (.slice pY 0 cY) (.slice qY 0 dY) (.slice none 0 0) (.slice none 0 0) [] [] [] [] W h1 h2 (hnil W) (hnilB W)
    rw [likeL_true ⟨rfl, rfl⟩] at KL
    have KL := Lib.hid KL
    simp only [List.length_nil] at *
    obtain ⟨p0, p1, pf0, pf1⟩ := R3.out.c2
    obtain ⟨x0, x1, xf0, xf1⟩ := R5.out.c2
    obtain ⟨y0, y1, yf0, yf1⟩ := R7.out.c2
    go_wp2_with (go_at_call 13; refine (KL.out _ HY.out HVY.out).mono ?_; rintro e wz ⟨rfl, hb⟩; have HE := Lib.hid (HB.out.trans (hb.mono HB.out.size)); clear hb)
    go_ret
    exact ⟨rfl, HE.out⟩
  · have q : ((Y.length : Int) != (S.length : Int)) = false := by simp; omega
    have qn : (1 : Int) ≤ (cntL VY (b1, b2, b3) : Int) := by omega
    clear heq hcnt
    have KL := fun W h1 h2 h3 h4 => like_any (.slice pX Y.length cX) (.slice qX VY.length dX) (.slice pY Y.length cY) (.slice qY VY.length dY) Y VY Y VY W h1 h2 h3 h4
    rw [likeL_true ⟨rfl, rfl⟩] at KL
    have KL := Lib.hid KL
    have KM := fun W h1 h3 => like_any (.slice pX Y.length cX) (.slice none 0 0) (.slice pS S.length cS) (.slice none 0 0) Y [] S [] W h1 (hnilB W) h3 (hnilB W)
    rw [likeL_true ⟨hxs, rfl⟩] at KM
    have KM := Lib.hid KM
    have KN := fun W h => count_any (.slice pX Y.length cX) (.slice qX VY.length dX) VY (b1, b2, b3) W h
    generalize cntL VY (b1, b2, b3) = nn at *
    have KN := Lib.hid KN
    clear hxs
    obtain ⟨p0, p1, pf0, pf1⟩ := R3.out.c2
    obtain ⟨x0, x1, xf0, xf1⟩ := R5.out.c2
    obtain ⟨y0, y1, yf0, yf1⟩ := R7.out.c2
    go_wp2_with (first
      | (go_at_call_of 13 (Value.slice qX VY.length dX); refine (KL.out _ HX.out HVX.out HY.out HVY.out).mono ?_; rintro e wz ⟨rfl, hb⟩; (replace R3 := Lib.hid (R3.out.belowS hb); replace R4 := Lib.hid (R4.out.belowS hb); replace R5 := Lib.hid (R5.out.belowS hb); replace R7 := Lib.hid (R7.out.belowS hb); replace R9 := Lib.hid (R9.out.belowS hb); replace R11 := Lib.hid (R11.out.belowS hb); replace HS := Lib.hid (HS.out.below hb (Nat.le_refl _)); replace HV := Lib.hid (HV.out.below hb (Nat.le_refl _)); replace HX := Lib.hid (HX.out.below hb (Nat.le_refl _)); replace HVX := Lib.hid (HVX.out.below hb (Nat.le_refl _)); replace HY := Lib.hid (HY.out.below hb (Nat.le_refl _)); replace HVY := Lib.hid (HVY.out.below hb (Nat.le_refl _)); replace HB := Lib.hid (HB.out.trans (hb.mono HB.out.size)); clear hb); clear p0 p1 pf0 pf1 x0 x1 xf0 xf1 y0 y1 yf0 yf1; obtain ⟨x0, x1, xf0, xf1⟩ := R9.out.c2; obtain ⟨y0, y1, yf0, yf1⟩ := R11.out.c2; obtain ⟨p0, p1, pf0, pf1⟩ := R5.out.c2; obtain ⟨q0, q1, q2, qf0, qf1, qf2⟩ := R4.out.c3)
      | (go_at_call_of 13 (Value.slice pS S.length cS); refine (KM.out _ HX.out HS.out).mono ?_; rintro e wz ⟨rfl, hb⟩; (replace R3 := Lib.hid (R3.out.belowS hb); replace R4 := Lib.hid (R4.out.belowS hb); replace R5 := Lib.hid (R5.out.belowS hb); replace R7 := Lib.hid (R7.out.belowS hb); replace R9 := Lib.hid (R9.out.belowS hb); replace R11 := Lib.hid (R11.out.belowS hb); replace HS := Lib.hid (HS.out.below hb (Nat.le_refl _)); replace HV := Lib.hid (HV.out.below hb (Nat.le_refl _)); replace HX := Lib.hid (HX.out.below hb (Nat.le_refl _)); replace HVX := Lib.hid (HVX.out.below hb (Nat.le_refl _)); replace HY := Lib.hid (HY.out.below hb (Nat.le_refl _)); replace HVY := Lib.hid (HVY.out.below hb (Nat.le_refl _)); replace HB := Lib.hid (HB.out.trans (hb.mono HB.out.size)); clear hb); clear p0 p1 pf0 pf1 x0 x1 xf0 xf1 y0 y1 yf0 yf1 q0 q1 q2 qf0 qf1 qf2; obtain ⟨p0, p1, pf0, pf1⟩ := R5.out.c2; obtain ⟨q0, q1, q2, qf0, qf1, qf2⟩ := R4.out.c3)
      | (go_at_call 17; refine (KN.out _ HVX.out).mono ?_; rintro e wz ⟨rfl, hb⟩; have HE := Lib.hid (HB.out.trans (hb.mono HB.out.size)); clear hb))
    go_ret
    exact ⟨by simp [qn], HE.out⟩
end Go.Proofs.Ytlljpnbajgcidaa

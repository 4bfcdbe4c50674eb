/- VoteCalls: the walk. Printed by gen_vote2.py. -/
import Derived.Test.YtlljpnbajgcidaaVoOrder
import Derived.Test.YtlljpnbajgcidaaVo23
import Derived.Test.YtlljpnbajgcidaaLaterTail
import Derived.BigQuiet
import Derived.Deep.DeepCutAuto
namespace Go.Proofs.Ytlljpnbajgcidaa
open Go.RowKit Go.Shelf

theorem RCastPost.rparts2 {S : List ByteArray} {V : List Bal} {b : Bal} {w : World} {e : Ending} {w' : World} (h : RCastPost S V b w e w') : ∃ pS cS pV cV S' V' c, e = .returned (.tuple #[.agg #[.slice pS S'.length cS, .slice pV V'.length cV], .int .i64 c]) ∧ Hid (RCastRel S V b S' V' c) ∧
    Hid (RS w' (.slice pS S'.length cS) S') ∧ Hid (RB w' (.slice pV V'.length cV) V') ∧ Below w.heap.size w w' := by
  obtain ⟨sv, vv, S', V', c, rfl, h1, h2, h3, h4⟩ := h
  obtain ⟨pS, cS, rfl, _, _⟩ := RowE.shape encS h2
  obtain ⟨pV, cV, rfl, _, _⟩ := RowE.shape encB h3
  exact ⟨pS, cS, pV, cV, S', V', c, rfl, Lib.hid h1, Lib.hid h2, Lib.hid h3, h4⟩

set_option maxRecDepth 100000 in
set_option maxHeartbeats 4000000 in
theorem voteCalls_walk (w : World) (v : Value) (x : List ByteArray × List Bal) (hx : SnapRep w v x) (vb : Value) (b : Bal) (hb : BalRep w vb b) :
    Calls Try.prog 5 #[v, vb] w fun e w' => e = .returned (.bool true) ∧ Below w.heap.size w w' := by
  obtain ⟨pS, pV, cS, cV, n1, n2, S, V, rfl, l1, l2, hS, hV, hf⟩ := few_use hx
  obtain rfl := hb
  have KF := Lib.hid hf
  have HS0 := Lib.hid hS
  have HV0 := Lib.hid hV
  clear hx hf hS hV
  obtain ⟨b1, b2, b3⟩ := b
  have R3 := Lib.hid ((RowAt.new w #[.slice pS n1 cS, .slice pV n2 cV] 25).alloc (balO (b1, b2, b3)))
  have R4 := Lib.hid (RowAt.new' (w.alloc (.cells #[.slice pS n1 cS, .slice pV n2 cV] 25)) #[.string b1, .string b2, .bool b3] 29 (k := w.heap.size + 1) (by simp))
  have HB := Lib.hid (belowA2 w (.cells #[.slice pS n1 cS, .slice pV n2 cV] 25) (balO (b1, b2, b3)))
  go_enter Try.func5, Try.ntmps5
  go_upto_region 1 with (fail)
  obtain ⟨x0, x1, xf0, xf1⟩ := R3.out.c2
  go_upto_region 2 with (go_at_call 12; refine (KF.out _).mono ?_; rintro e w2 ⟨rfl, hb⟩; (replace R3 := Lib.hid (R3.out.belowS hb); replace R4 := Lib.hid (R4.out.belowS hb); replace HB := Lib.hid (HB.out.trans (hb.mono HB.out.size)); clear hb); clear x0 x1 xf0 xf1; obtain ⟨x0, x1, xf0, xf1⟩ := R3.out.c2)
  clear x0 x1 xf0 xf1
  replace R3 := Lib.hid ((R3.out.set 0 (.slice pS S.length cS) rfl).set 1 (.slice pV V.length cV) rfl)
  replace R4 := Lib.hid ((R4.out.other ⟨w.heap.size, 0, none⟩ (.slice pS S.length cS) (by simp)).other ⟨w.heap.size, 1, none⟩ (.slice pV V.length cV) (by simp))
  replace HB := Lib.hid ((HB.out.setCell (p := ⟨w.heap.size, 0, none⟩) (Nat.le_refl _) (.slice pS S.length cS)).setCell (p := ⟨w.heap.size, 1, none⟩) (Nat.le_refl _) (.slice pV V.length cV))
  generalize (w2.setCell ⟨w.heap.size, 0, none⟩ (.slice pS S.length cS)).setCell ⟨w.heap.size, 1, none⟩ (.slice pV V.length cV) = w3 at *
  have HS := Lib.hid (HS0.out.below HB.out (Nat.le_refl _))
  have HV := Lib.hid (HV0.out.below HB.out (Nat.le_refl _))
  clear HS0 HV0 KF
  obtain ⟨p0, p1, pf0, pf1⟩ := R3.out.c2
  obtain ⟨q0, q1, q2, qf0, qf1, qf2⟩ := R4.out.c3
  have KC := Lib.hid (cast_any _ _ S V (b1, b2, b3) _ HS.out HV.out (by omega) (by omega))
  go_upto_region 3 with (fail)
  refine KC.out.mono ?_
  intro e w4a hp
  obtain ⟨pX, cX, qX, dX, X, VX, cx, rfl, CX, HX, HVX, hb⟩ := hp.parts2
  have hlX := castRel_len CX.out (by omega) (by omega)
  (replace R3 := Lib.hid (R3.out.belowS hb); replace R4 := Lib.hid (R4.out.belowS hb); replace HS := Lib.hid (HS.out.below hb (Nat.le_refl _)); replace HV := Lib.hid (HV.out.below hb (Nat.le_refl _)); replace HB := Lib.hid (HB.out.trans (hb.mono HB.out.size)); clear hb)
  clear hp KC p0 p1 pf0 pf1 q0 q1 q2 qf0 qf1 qf2
  go_upto_region 3 with (fail)
  (replace R3 := Lib.hid (R3.out.alloc (.cells #[.slice pX X.length cX, .slice qX VX.length dX] 25)); replace R4 := Lib.hid (R4.out.alloc (.cells #[.slice pX X.length cX, .slice qX VX.length dX] 25)); replace HS := Lib.hid (HS.out.below ((Below.refl (w4a).heap.size (w4a)).alloc (Nat.le_refl _) (.cells #[.slice pX X.length cX, .slice qX VX.length dX] 25)) (Nat.le_refl _)); replace HV := Lib.hid (HV.out.below ((Below.refl (w4a).heap.size (w4a)).alloc (Nat.le_refl _) (.cells #[.slice pX X.length cX, .slice qX VX.length dX] 25)) (Nat.le_refl _)); replace HX := Lib.hid (HX.out.below ((Below.refl (w4a).heap.size (w4a)).alloc (Nat.le_refl _) (.cells #[.slice pX X.length cX, .slice qX VX.length dX] 25)) (Nat.le_refl _)); replace HVX := Lib.hid (HVX.out.below ((Below.refl (w4a).heap.size (w4a)).alloc (Nat.le_refl _) (.cells #[.slice pX X.length cX, .slice qX VX.length dX] 25)) (Nat.le_refl _)); replace HB := Lib.hid (HB.out.alloc HB.out.size (.cells #[.slice pX X.length cX, .slice qX VX.length dX] 25)))
  have R5 := Lib.hid (RowAt.new w4a #[.slice pX X.length cX, .slice qX VX.length dX] 25)
  generalize w4a.alloc (.cells #[.slice pX X.length cX, .slice qX VX.length dX] 25) = w4 at *
  generalize w4a.heap.size = k5 at *
  obtain ⟨p0, p1, pf0, pf1⟩ := R3.out.c2
  obtain ⟨q0, q1, q2, qf0, qf1, qf2⟩ := R4.out.c3
  have KC := Lib.hid (rcast_any _ _ S V (b1, b2, b3) _ HS.out HV.out (by omega) (by omega))
  go_upto_region 4 with (fail)
  refine KC.out.mono ?_
  intro e w5a hp
  obtain ⟨pY, cY, qY, dY, Y, VY, cy, rfl, CY, HY, HVY, hb⟩ := RCastPost.rparts2 hp
  (replace R3 := Lib.hid (R3.out.belowS hb); replace R4 := Lib.hid (R4.out.belowS hb); replace R5 := Lib.hid (R5.out.belowS hb); replace HS := Lib.hid (HS.out.below hb (Nat.le_refl _)); replace HV := Lib.hid (HV.out.below hb (Nat.le_refl _)); replace HX := Lib.hid (HX.out.below hb (Nat.le_refl _)); replace HVX := Lib.hid (HVX.out.below hb (Nat.le_refl _)); replace HB := Lib.hid (HB.out.trans (hb.mono HB.out.size)); clear hb)
  clear hp KC p0 p1 pf0 pf1 q0 q1 q2 qf0 qf1 qf2
  go_upto_region 4 with (fail)
  (replace R3 := Lib.hid (R3.out.alloc (.cells #[.slice pY Y.length cY, .slice qY VY.length dY] 25)); replace R4 := Lib.hid (R4.out.alloc (.cells #[.slice pY Y.length cY, .slice qY VY.length dY] 25)); replace R5 := Lib.hid (R5.out.alloc (.cells #[.slice pY Y.length cY, .slice qY VY.length dY] 25)); replace HS := Lib.hid (HS.out.below ((Below.refl (w5a).heap.size (w5a)).alloc (Nat.le_refl _) (.cells #[.slice pY Y.length cY, .slice qY VY.length dY] 25)) (Nat.le_refl _)); replace HV := Lib.hid (HV.out.below ((Below.refl (w5a).heap.size (w5a)).alloc (Nat.le_refl _) (.cells #[.slice pY Y.length cY, .slice qY VY.length dY] 25)) (Nat.le_refl _)); replace HX := Lib.hid (HX.out.below ((Below.refl (w5a).heap.size (w5a)).alloc (Nat.le_refl _) (.cells #[.slice pY Y.length cY, .slice qY VY.length dY] 25)) (Nat.le_refl _)); replace HVX := Lib.hid (HVX.out.below ((Below.refl (w5a).heap.size (w5a)).alloc (Nat.le_refl _) (.cells #[.slice pY Y.length cY, .slice qY VY.length dY] 25)) (Nat.le_refl _)); replace HY := Lib.hid (HY.out.below ((Below.refl (w5a).heap.size (w5a)).alloc (Nat.le_refl _) (.cells #[.slice pY Y.length cY, .slice qY VY.length dY] 25)) (Nat.le_refl _)); replace HVY := Lib.hid (HVY.out.below ((Below.refl (w5a).heap.size (w5a)).alloc (Nat.le_refl _) (.cells #[.slice pY Y.length cY, .slice qY VY.length dY] 25)) (Nat.le_refl _)); replace HB := Lib.hid (HB.out.alloc HB.out.size (.cells #[.slice pY Y.length cY, .slice qY VY.length dY] 25)))
  have R7 := Lib.hid (RowAt.new w5a #[.slice pY Y.length cY, .slice qY VY.length dY] 25)
  generalize w5a.alloc (.cells #[.slice pY Y.length cY, .slice qY VY.length dY] 25) = w5 at *
  generalize w5a.heap.size = k7 at *
  obtain ⟨e1, e2, e3⟩ := cast_same CX.out CY.out
  subst e1 e2 e3
  clear CY
  have hnil : ∀ W : World, RS W (.slice none 0 0) [] := fun W => .inl ⟨rfl, rfl⟩
  have hnilB : ∀ W : World, RB W (.slice none 0 0) [] := fun W => .inl ⟨rfl, rfl⟩
  have KL := fun W h1 h2 h3 h4 => like_any (.slice pX X.length cX) (.slice qX VX.length dX) (.slice pY X.length cY) (.slice qY VX.length dY) X VX X VX W h1 h2 h3 h4
  rw [likeL_true ⟨rfl, rfl⟩] at KL
  have KL := Lib.hid KL
  by_cases hr : RightOk S V
  · skip
    have KC := close_any _ _ S V _ HS.out HV.out (by omega) (by omega)
    rw [rightL_true hr] at KC
    simp only [if_true, Bool.false_eq_true, if_false] at KC
    have HR := Lib.hid (rightL_true hr)
    clear hr
    obtain ⟨p0, p1, pf0, pf1⟩ := R3.out.c2
    have KC := Lib.hid KC
    go_upto_region 5 with (fail)
    refine KC.out.mono ?_
    rintro e w8a ⟨rfl, hb⟩
    (replace R3 := Lib.hid (R3.out.belowS hb); replace R4 := Lib.hid (R4.out.belowS hb); replace R5 := Lib.hid (R5.out.belowS hb); replace R7 := Lib.hid (R7.out.belowS hb); replace HS := Lib.hid (HS.out.below hb (Nat.le_refl _)); replace HV := Lib.hid (HV.out.below hb (Nat.le_refl _)); replace HX := Lib.hid (HX.out.below hb (Nat.le_refl _)); replace HVX := Lib.hid (HVX.out.below hb (Nat.le_refl _)); replace HY := Lib.hid (HY.out.below hb (Nat.le_refl _)); replace HVY := Lib.hid (HVY.out.below hb (Nat.le_refl _)); replace HB := Lib.hid (HB.out.trans (hb.mono HB.out.size)); clear hb)
    clear KC p0 p1 pf0 pf1
    go_upto_region 5 with (fail)
    (replace R3 := Lib.hid (R3.out.alloc (.cells #[.slice pS S.length cS, .slice none 0 0] 25)); replace R4 := Lib.hid (R4.out.alloc (.cells #[.slice pS S.length cS, .slice none 0 0] 25)); replace R5 := Lib.hid (R5.out.alloc (.cells #[.slice pS S.length cS, .slice none 0 0] 25)); replace R7 := Lib.hid (R7.out.alloc (.cells #[.slice pS S.length cS, .slice none 0 0] 25)); replace HS := Lib.hid (HS.out.below ((Below.refl (w8a).heap.size (w8a)).alloc (Nat.le_refl _) (.cells #[.slice pS S.length cS, .slice none 0 0] 25)) (Nat.le_refl _)); replace HV := Lib.hid (HV.out.below ((Below.refl (w8a).heap.size (w8a)).alloc (Nat.le_refl _) (.cells #[.slice pS S.length cS, .slice none 0 0] 25)) (Nat.le_refl _)); replace HX := Lib.hid (HX.out.below ((Below.refl (w8a).heap.size (w8a)).alloc (Nat.le_refl _) (.cells #[.slice pS S.length cS, .slice none 0 0] 25)) (Nat.le_refl _)); replace HVX := Lib.hid (HVX.out.below ((Below.refl (w8a).heap.size (w8a)).alloc (Nat.le_refl _) (.cells #[.slice pS S.length cS, .slice none 0 0] 25)) (Nat.le_refl _)); replace HY := Lib.hid (HY.out.below ((Below.refl (w8a).heap.size (w8a)).alloc (Nat.le_refl _) (.cells #[.slice pS S.length cS, .slice none 0 0] 25)) (Nat.le_refl _)); replace HVY := Lib.hid (HVY.out.below ((Below.refl (w8a).heap.size (w8a)).alloc (Nat.le_refl _) (.cells #[.slice pS S.length cS, .slice none 0 0] 25)) (Nat.le_refl _)); replace HB := Lib.hid (HB.out.alloc HB.out.size (.cells #[.slice pS S.length cS, .slice none 0 0] 25)))
    have R9 := Lib.hid (RowAt.new w8a #[.slice pS S.length cS, .slice none 0 0] 25)
    generalize w8a.alloc (.cells #[.slice pS S.length cS, .slice none 0 0] 25) = W at *
    generalize w8a.heap.size = k9 at *
    obtain ⟨p0, p1⟩ := R3.out.l2
    obtain ⟨q0, q1, q2⟩ := R4.out.l3
    obtain ⟨x0, x1⟩ := R5.out.l2
    obtain ⟨y0, y1⟩ := R7.out.l2
    have K9 := Lib.hid (fun u : Later W => right_any (.slice pS S.length cS) (.slice pV V.length cV) S V u.w (HS.out.below u.below (Nat.le_refl _)) (HV.out.below u.below (Nat.le_refl _)) (by omega) (by omega))
    have K7 := Lib.hid (fun u : Later W => rright_any (.slice pS S.length cS) (.slice pV V.length cV) S V u.w (HS.out.below u.below (Nat.le_refl _)) (HV.out.below u.below (Nat.le_refl _)) (by omega) (by omega))
    have K11 := Lib.hid (fun u : Later W => has_any (.slice pS S.length cS) (.slice pV V.length cV) S b2 u.w (HS.out.below u.below (Nat.le_refl _)))
    have K16 := Lib.hid (fun u : Later W => rhas_any (.slice pS S.length cS) S b2 u.w (HS.out.below u.below (Nat.le_refl _)))
    have K17 := Lib.hid (fun u : Later W => count_any (.slice pS S.length cS) (.slice pV V.length cV) V (b1, b2, b3) u.w (HV.out.below u.below (Nat.le_refl _)))
    have K18 := Lib.hid (fun u : Later W => rcount_any (.slice pV V.length cV) V (b1, b2, b3) u.w (HV.out.below u.below (Nat.le_refl _)))
    have K13 := Lib.hid (fun u : Later W => KL.out u.w (HX.out.below u.below (Nat.le_refl _)) (HVX.out.below u.below (Nat.le_refl _)) (HY.out.below u.below (Nat.le_refl _)) (HVY.out.below u.below (Nat.le_refl _)))
    have K8 := Lib.hid (fun u : Later W => alive_any u.w)
    generalize rightL S V = rr at *
    generalize hasL S b2 = hh at *
    generalize cntL V (b1, b2, b3) = nn at *
    (refine region_later mix ?hB ?_; case hB => kernel_rfl); (repeat (first | go_big_quiet_step ((first | (go_at_call 9; with_reducible exact Later.call (K9.out _)) | (go_at_call 7; with_reducible exact Later.call (K7.out _)) | (go_at_call 11; with_reducible exact Later.call (K11.out _)) | (go_at_call 16; with_reducible exact Later.call (K16.out _)) | (go_at_call 17; with_reducible exact Later.call (K17.out _)) | (go_at_call 18; with_reducible exact Later.call (K18.out _)) | (go_at_call 13; with_reducible exact Later.call (K13.out _)) | (go_at_call 8; with_reducible exact Later.call (K8.out _)))) | quiet_step ((first | (go_at_call 9; with_reducible exact Later.call (K9.out _)) | (go_at_call 7; with_reducible exact Later.call (K7.out _)) | (go_at_call 11; with_reducible exact Later.call (K11.out _)) | (go_at_call 16; with_reducible exact Later.call (K16.out _)) | (go_at_call 17; with_reducible exact Later.call (K17.out _)) | (go_at_call 18; with_reducible exact Later.call (K18.out _)) | (go_at_call 13; with_reducible exact Later.call (K13.out _)) | (go_at_call 8; with_reducible exact Later.call (K8.out _)))))); (refine wpQuiet_nil ?_; rintro _ ⟨u, rfl⟩)
    clear p0 p1 q0 q1 q2 x0 x1 y0 y1 K9 K11 K16 K17 K18 K13 K8
    have R3u := Lib.hid (R3.out.later u)
    have R9u := Lib.hid (R9.out.later u)
    have HSu := Lib.hid (HS.out.below u.below (Nat.le_refl _))
    have HVu := Lib.hid (HV.out.below u.below (Nat.le_refl _))
    have HBu := Lib.hid (HB.out.trans (u.below.mono HB.out.size))
    have K7 := K7.out u
    rw [HR.out] at K7
    have K7 := Lib.hid K7
    generalize u.w = W2 at *
    clear u R3 R4 R5 R7 R9 HS HV HX HVX HY HVY HB KL
    have KL := fun W h => like_any (.slice pS S.length cS) (.slice none 0 0) (.slice pS S.length cS) (.slice none 0 0) S [] S [] W h (hnilB W) h (hnilB W)
    rw [likeL_true ⟨rfl, rfl⟩] at KL
    have KL := Lib.hid KL
    obtain ⟨p0, p1, pf0, pf1⟩ := R3u.out.c2
    go_wp2_with (first | (go_at_call 7; refine K7.out.mono ?_; rintro e wy ⟨rfl, hb⟩; (replace R3u := Lib.hid (R3u.out.belowS hb); replace R9u := Lib.hid (R9u.out.belowS hb); replace HSu := Lib.hid (HSu.out.below hb (Nat.le_refl _)); replace HBu := Lib.hid (HBu.out.trans (hb.mono HBu.out.size)); clear hb); clear p0 p1 pf0 pf1; obtain ⟨p0, p1, pf0, pf1⟩ := R3u.out.c2; obtain ⟨x0, x1, xf0, xf1⟩ := R9u.out.c2) | (go_at_call 13; refine (KL.out _ HSu.out).mono ?_; rintro e wz ⟨rfl, hb⟩; have HE := Lib.hid (HBu.out.trans (hb.mono HBu.out.size)); clear hb))
    go_ret
    exact ⟨rfl, HE.out⟩
  · skip
    have KC := close_any _ _ S V _ HS.out HV.out (by omega) (by omega)
    rw [rightL_false hr] at KC
    simp only [if_true, Bool.false_eq_true, if_false] at KC
    have HR := Lib.hid (rightL_false hr)
    clear hr
    obtain ⟨p0, p1, pf0, pf1⟩ := R3.out.c2
    have KC := Lib.hid KC
    go_upto_region 5 with (fail)
    refine KC.out.mono ?_
    rintro e w8a ⟨rfl, hb⟩
    (replace R3 := Lib.hid (R3.out.belowS hb); replace R4 := Lib.hid (R4.out.belowS hb); replace R5 := Lib.hid (R5.out.belowS hb); replace R7 := Lib.hid (R7.out.belowS hb); replace HS := Lib.hid (HS.out.below hb (Nat.le_refl _)); replace HV := Lib.hid (HV.out.below hb (Nat.le_refl _)); replace HX := Lib.hid (HX.out.below hb (Nat.le_refl _)); replace HVX := Lib.hid (HVX.out.below hb (Nat.le_refl _)); replace HY := Lib.hid (HY.out.below hb (Nat.le_refl _)); replace HVY := Lib.hid (HVY.out.below hb (Nat.le_refl _)); replace HB := Lib.hid (HB.out.trans (hb.mono HB.out.size)); clear hb)
    clear KC p0 p1 pf0 pf1
    go_upto_region 5 with (fail)
    (replace R3 := Lib.hid (R3.out.alloc (.cells #[.slice none 0 0, .slice none 0 0] 25)); replace R4 := Lib.hid (R4.out.alloc (.cells #[.slice none 0 0, .slice none 0 0] 25)); replace R5 := Lib.hid (R5.out.alloc (.cells #[.slice none 0 0, .slice none 0 0] 25)); replace R7 := Lib.hid (R7.out.alloc (.cells #[.slice none 0 0, .slice none 0 0] 25)); replace HS := Lib.hid (HS.out.below ((Below.refl (w8a).heap.size (w8a)).alloc (Nat.le_refl _) (.cells #[.slice none 0 0, .slice none 0 0] 25)) (Nat.le_refl _)); replace HV := Lib.hid (HV.out.below ((Below.refl (w8a).heap.size (w8a)).alloc (Nat.le_refl _) (.cells #[.slice none 0 0, .slice none 0 0] 25)) (Nat.le_refl _)); replace HX := Lib.hid (HX.out.below ((Below.refl (w8a).heap.size (w8a)).alloc (Nat.le_refl _) (.cells #[.slice none 0 0, .slice none 0 0] 25)) (Nat.le_refl _)); replace HVX := Lib.hid (HVX.out.below ((Below.refl (w8a).heap.size (w8a)).alloc (Nat.le_refl _) (.cells #[.slice none 0 0, .slice none 0 0] 25)) (Nat.le_refl _)); replace HY := Lib.hid (HY.out.below ((Below.refl (w8a).heap.size (w8a)).alloc (Nat.le_refl _) (.cells #[.slice none 0 0, .slice none 0 0] 25)) (Nat.le_refl _)); replace HVY := Lib.hid (HVY.out.below ((Below.refl (w8a).heap.size (w8a)).alloc (Nat.le_refl _) (.cells #[.slice none 0 0, .slice none 0 0] 25)) (Nat.le_refl _)); replace HB := Lib.hid (HB.out.alloc HB.out.size (.cells #[.slice none 0 0, .slice none 0 0] 25)))
    have R9 := Lib.hid (RowAt.new w8a #[.slice none 0 0, .slice none 0 0] 25)
    generalize w8a.alloc (.cells #[.slice none 0 0, .slice none 0 0] 25) = W at *
    generalize w8a.heap.size = k9 at *
    obtain ⟨p0, p1⟩ := R3.out.l2
    obtain ⟨q0, q1, q2⟩ := R4.out.l3
    obtain ⟨x0, x1⟩ := R5.out.l2
    obtain ⟨y0, y1⟩ := R7.out.l2
    have K9 := Lib.hid (fun u : Later W => right_any (.slice pS S.length cS) (.slice pV V.length cV) S V u.w (HS.out.below u.below (Nat.le_refl _)) (HV.out.below u.below (Nat.le_refl _)) (by omega) (by omega))
    have K7 := Lib.hid (fun u : Later W => rright_any (.slice pS S.length cS) (.slice pV V.length cV) S V u.w (HS.out.below u.below (Nat.le_refl _)) (HV.out.below u.below (Nat.le_refl _)) (by omega) (by omega))
    have K11 := Lib.hid (fun u : Later W => has_any (.slice pS S.length cS) (.slice pV V.length cV) S b2 u.w (HS.out.below u.below (Nat.le_refl _)))
    have K16 := Lib.hid (fun u : Later W => rhas_any (.slice pS S.length cS) S b2 u.w (HS.out.below u.below (Nat.le_refl _)))
    have K17 := Lib.hid (fun u : Later W => count_any (.slice pS S.length cS) (.slice pV V.length cV) V (b1, b2, b3) u.w (HV.out.below u.below (Nat.le_refl _)))
    have K18 := Lib.hid (fun u : Later W => rcount_any (.slice pV V.length cV) V (b1, b2, b3) u.w (HV.out.below u.below (Nat.le_refl _)))
    have K13 := Lib.hid (fun u : Later W => KL.out u.w (HX.out.below u.below (Nat.le_refl _)) (HVX.out.below u.below (Nat.le_refl _)) (HY.out.below u.below (Nat.le_refl _)) (HVY.out.below u.below (Nat.le_refl _)))
    have K8 := Lib.hid (fun u : Later W => alive_any u.w)
    generalize rightL S V = rr at *
    generalize hasL S b2 = hh at *
    generalize cntL V (b1, b2, b3) = nn at *
    (refine region_later mix ?hB ?_; case hB => kernel_rfl); (repeat (first | go_big_quiet_step ((first | (go_at_call 9; with_reducible exact Later.call (K9.out _)) | (go_at_call 7; with_reducible exact Later.call (K7.out _)) | (go_at_call 11; with_reducible exact Later.call (K11.out _)) | (go_at_call 16; with_reducible exact Later.call (K16.out _)) | (go_at_call 17; with_reducible exact Later.call (K17.out _)) | (go_at_call 18; with_reducible exact Later.call (K18.out _)) | (go_at_call 13; with_reducible exact Later.call (K13.out _)) | (go_at_call 8; with_reducible exact Later.call (K8.out _)))) | quiet_step ((first | (go_at_call 9; with_reducible exact Later.call (K9.out _)) | (go_at_call 7; with_reducible exact Later.call (K7.out _)) | (go_at_call 11; with_reducible exact Later.call (K11.out _)) | (go_at_call 16; with_reducible exact Later.call (K16.out _)) | (go_at_call 17; with_reducible exact Later.call (K17.out _)) | (go_at_call 18; with_reducible exact Later.call (K18.out _)) | (go_at_call 13; with_reducible exact Later.call (K13.out _)) | (go_at_call 8; with_reducible exact Later.call (K8.out _)))))); (refine wpQuiet_nil ?_; rintro _ ⟨u, rfl⟩)
    clear p0 p1 q0 q1 q2 x0 x1 y0 y1 K9 K11 K16 K17 K18 K13 K8
    have R3u := Lib.hid (R3.out.later u)
    have R9u := Lib.hid (R9.out.later u)
    have HSu := Lib.hid (HS.out.below u.below (Nat.le_refl _))
    have HVu := Lib.hid (HV.out.below u.below (Nat.le_refl _))
    have HBu := Lib.hid (HB.out.trans (u.below.mono HB.out.size))
    have K7 := K7.out u
    rw [HR.out] at K7
    have K7 := Lib.hid K7
    generalize u.w = W2 at *
    clear u R3 R4 R5 R7 R9 HS HV HX HVX HY HVY HB KL
    have KL := fun W h => like_any (.slice none 0 0) (.slice none 0 0) (.slice none 0 0) (.slice none 0 0) [] [] [] [] W h (hnilB W) h (hnilB W)
    rw [likeL_true ⟨rfl, rfl⟩] at KL
    have KL := Lib.hid KL
    obtain ⟨p0, p1, pf0, pf1⟩ := R3u.out.c2
    go_wp2_with (first | (go_at_call 7; refine K7.out.mono ?_; rintro e wy ⟨rfl, hb⟩; (replace R3u := Lib.hid (R3u.out.belowS hb); replace R9u := Lib.hid (R9u.out.belowS hb); replace HSu := Lib.hid (HSu.out.below hb (Nat.le_refl _)); replace HBu := Lib.hid (HBu.out.trans (hb.mono HBu.out.size)); clear hb); clear p0 p1 pf0 pf1; obtain ⟨p0, p1, pf0, pf1⟩ := R3u.out.c2; obtain ⟨x0, x1, xf0, xf1⟩ := R9u.out.c2) | (go_at_call 13; refine (KL.out _ (hnil _)).mono ?_; rintro e wz ⟨rfl, hb⟩; have HE := Lib.hid (HBu.out.trans (hb.mono HBu.out.size)); clear hb))
    go_ret
    exact ⟨rfl, HE.out⟩
end Go.Proofs.Ytlljpnbajgcidaa

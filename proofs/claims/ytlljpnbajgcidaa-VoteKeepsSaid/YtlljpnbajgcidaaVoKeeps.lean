/- VoteKeeps: the walk. -/
import Derived.Test.YtlljpnbajgcidaaVoOrder
import Derived.Test.YtlljpnbajgcidaaLaterTail
import Derived.BigRegion
import Derived.BigQuiet
namespace Go.Proofs.Ytlljpnbajgcidaa
open Go.RowKit Go.Shelf

def notSlice : Value → Prop
  | .slice .. => False
  | _ => True
theorem flat_prop {α : Type} {E : Enc α} {p : Value → Prop} (h : ∀ x, ∀ u ∈ E.cells x, p u) : ∀ l : List α, ∀ u ∈ flat E l, p u
  | [], u, hu => by cases hu
  | x :: l, u, hu => by
    rw [flat] at hu
    rcases List.mem_append.1 hu with hu | hu
    · exact h x u hu
    · exact flat_prop h l u hu
theorem RowE.setBox {α : Type} {E : Enc α} {w : World} {v : Value} {l : List α} {k : Nat} {p1 p2 : Option Addr} {n1 n2 c1 c2 : Nat} {T : TypeId} (hE : ∀ x, ∀ u ∈ E.cells x, notSlice u) (h : RowE E w v l) (hr : RowAt w k #[.slice p1 n1 c1, .slice p2 n2 c2] T) (i : Nat) (z : Value) : RowE E (w.setCell ⟨k, i, none⟩ z) v l := by
  rcases h with h | ⟨a, cap, hv, h1, h2, hc⟩
  · exact .inl h
  · refine .inr ⟨a, cap, hv, h1, h2, fun j u hj => ?_⟩
    have hu := hc j u hj
    rw [World.cell?_setCell_other]
    · exact hu
    · intro e
      have hns := flat_prop hE l u (List.mem_of_getElem? hj)
      by_cases hi : i < 2
      · rw [← e, hr.cell i] at hu
        match i, hi with
        | 0, _ => simp at hu; subst hu; exact hns
        | 1, _ => simp at hu; subst hu; exact hns
      · rw [← e, hr.cell i] at hu
        rw [Array.getElem?_eq_none (by simp; omega)] at hu
        cases hu
theorem encS_ns : ∀ x, ∀ u ∈ encS.cells x, notSlice u := fun x u h => by simp [encS] at h; subst h; trivial
theorem encB_ns : ∀ x, ∀ u ∈ encB.cells x, notSlice u := fun x u h => by simp [encB] at h; rcases h with rfl | rfl | rfl <;> trivial

theorem had_step {V : List Bal} {b : Bal} {k : Nat} (h : k < V.length) : hadL (V.take (k + 1)) b = hadL (V.take k) b + if V[k].2.1 = b.2.1 ∧ V[k].2.2 = b.2.2 ∧ V[k].1 ≠ b.1 then 1 else 0 := by
  rw [List.take_add_one, List.getElem?_eq_getElem h]
  unfold hadL
  rw [List.countP_append]
  simp [List.countP_cons, and_assoc]
theorem hadL_le (V : List Bal) (b : Bal) : hadL V b ≤ V.length := List.countP_le_length

set_option maxRecDepth 100000 in
set_option maxHeartbeats 4000000 in
theorem voteKeeps_walk (w : World) (v : Value) (S0 : List ByteArray) (hx : StrsRep w v S0) (vl : Value) (l : List Bal) (hl : BalsRep w vl l) :
    Calls Try.prog 3 #[v, vl] w fun e w' => e = .returned (.bool true) ∧ Below w.heap.size w w' := by
  obtain ⟨pS, cS, rfl, s1, s2⟩ := RowE.shape encS hx
  obtain ⟨pl, cl, rfl, s3, s4⟩ := RowE.shape encB hl
  obtain ⟨m, h1, h2, h3⟩ := minIs_ex 20 (by omega) S0.length
  have hS : RowE encS w (.slice pS m cS) (S0.take m) := RowE.take encS hx h2
  have hm : (S0.take m).length = m := by simp; omega
  generalize S0.take m = S at hS hm
  have HL := Lib.hid hl
  have HS0 := Lib.hid hS
  clear hl hS hx
  unfold maxLen at s2 s4
  have R5 := Lib.hid (RowAt.new w #[.slice pS m cS, .slice none 0 0] 25)
  have HB := Lib.hid (belowA w (.cells #[.slice pS m cS, .slice none 0 0] 25))
  have hnilB : ∀ W : World, RB W (.slice none 0 0) [] := fun W => .inl ⟨rfl, rfl⟩
  go_enter Try.func3, Try.ntmps3
  go_upto_region 2 with (fail)
  subst hm
  clear h1 h2
  have HS := Lib.hid (RowE.below encS HS0.out HB.out (Nat.le_refl _))
  have KR := rright_any (.slice pS S.length cS) (.slice none 0 0) S [] _ HS.out (hnilB _) (by simp) (by omega)
  have KP := fun W h => right_any (.slice pS S.length cS) (.slice none 0 0) S [] W h (hnilB W) (by simp) (by omega)
  obtain ⟨x0, x1, xf0, xf1⟩ := R5.out.c2
  by_cases hr : RightOk S []
  · rw [rightL_true hr] at KR
    have KR := Lib.hid KR
    go_upto_region 4 with (go_at_call 7; refine KR.out.mono ?_; rintro e w2 ⟨rfl, hb⟩; (replace R5 := Lib.hid (R5.out.belowS hb); replace HB := Lib.hid (HB.out.trans (hb.mono HB.out.size)); clear hb))
    have HS := Lib.hid (RowE.below encS HS0.out HB.out (Nat.le_refl _))
    have HRI := Lib.hid hr
    have HN := Lib.hid (hnilB w2)
    clear KR KP hr HS0 x0 x1 xf0 xf1
    go_wp2
    go_loopw [32] (fun c wr => ∃ (k : Nat) (S : List ByteArray) (V : List Bal) (pS : Option Addr) (cS : Nat) (pV : Option Addr) (cV : Nat), k ≤ l.length ∧ k ≤ 40 ∧ c = .int .i64 k ∧ Hid (RightOk S V) ∧ V.length ≤ k ∧ Hid (RowAt wr w.heap.size #[.slice pS S.length cS, .slice pV V.length cV] 25) ∧ Hid (RowE encS wr (.slice pS S.length cS) S) ∧ Hid (RowE encB wr (.slice pV V.length cV) V) ∧ Hid (Below w.heap.size w wr)) (fun c _ => l.length - (intOf c).toNat)
    case atStart => exact ⟨0, S, [], pS, cS, none, 0, Nat.zero_le _, by omega, rfl, HRI, Nat.le_refl _, R5, HS, HN, HB⟩
    case round =>
      clear R5 HS HN HB HRI
      obtain ⟨k, S, V, pS, cS, pV, cV, hk, hk40, rfl, hr, hVk, hR, hS, hV, hB⟩ := hrel
      have hr' := hr.out
      have hS16 : S.length ≤ 16 := hr'.1.2.2.2
      have HRI := Lib.hid hr'
      clear hr'
      by_cases hlt : k < l.length
      · obtain ⟨-, -, -, HA⟩ := (RowE.below encB HL.out hB.out (Nat.le_refl _)).atB
        obtain ⟨ad, rfl, c0, c1, c2⟩ := HA k l[k] (List.getElem?_eq_getElem hlt)
        clear HA
        generalize l[k] = b at *
        obtain ⟨b1, b2, b3⟩ := b
        simp only at c0 c1 c2
        have R5 := Lib.hid (hR.out.alloc (balO (b1, b2, b3)))
        have R7 := Lib.hid (RowAt.new wr #[.string b1, .string b2, .bool b3] 29)
        have HS : Hid (RS _ _ S) := Lib.hid (RowE.below encS hS.out (belowA wr (balO (b1, b2, b3))) (Nat.le_refl _))
        have HV : Hid (RB _ _ V) := Lib.hid (RowE.below encB hV.out (belowA wr (balO (b1, b2, b3))) (Nat.le_refl _))
        have HB := Lib.hid (hB.out.alloc hB.out.size (balO (b1, b2, b3)))
        clear hR hS hV hB hr
        by_cases h40 : k = 40
        · have h41 : (40 : Int) ≤ (k : Int) := by omega
          clear h40
          go_wp2_with (go_at_call 8; refine (alive_any _).mono ?_; rintro e wz ⟨rfl, hb⟩; have HZ := Lib.hid (HB.out.trans (hb.mono HB.out.size)); clear hb)
          go_ret
          exact ⟨rfl, HZ.out⟩
        · have h41 : (k : Int) < 40 := by omega
          go_upto_region 7 with (fail)
          clear c0 c1 c2
          generalize wr.alloc (balO (b1, b2, b3)) = W at *
          generalize wr.heap.size = k7 at *
          obtain ⟨p0, p1, pf0, pf1⟩ := R5.out.c2
          obtain ⟨q0, q1, q2, qf0, qf1, qf2⟩ := R7.out.c3
          have KC := Lib.hid (cast_any _ _ S V (b1, b2, b3) _ HS.out HV.out (by omega) (by omega))
          go_upto_region 9 with (fail)
          refine KC.out.mono ?_
          intro e w8a hp
          obtain ⟨pX, cX, qX, dX, X, VX, cx, rfl, CX, HX, HVX, hb⟩ := hp.parts2
          (replace R5 := Lib.hid (R5.out.belowS hb); replace R7 := Lib.hid (R7.out.belowS hb); replace HS := Lib.hid (HS.out.below hb (Nat.le_refl _)); replace HV := Lib.hid (HV.out.below hb (Nat.le_refl _)); replace HB := Lib.hid (HB.out.trans (hb.mono HB.out.size)); clear hb)
          clear hp KC p0 p1 pf0 pf1 q0 q1 q2 qf0 qf1 qf2
          go_upto_region 9 with (fail)
          (replace R5 := Lib.hid (R5.out.alloc (.cells #[.slice pX X.length cX, .slice qX VX.length dX] 25)); replace R7 := Lib.hid (R7.out.alloc (.cells #[.slice pX X.length cX, .slice qX VX.length dX] 25)); replace HS := Lib.hid (HS.out.below ((Below.refl (w8a).heap.size (w8a)).alloc (Nat.le_refl _) (.cells #[.slice pX X.length cX, .slice qX VX.length dX] 25)) (Nat.le_refl _)); replace HV := Lib.hid (HV.out.below ((Below.refl (w8a).heap.size (w8a)).alloc (Nat.le_refl _) (.cells #[.slice pX X.length cX, .slice qX VX.length dX] 25)) (Nat.le_refl _)); replace HX := Lib.hid (HX.out.below ((Below.refl (w8a).heap.size (w8a)).alloc (Nat.le_refl _) (.cells #[.slice pX X.length cX, .slice qX VX.length dX] 25)) (Nat.le_refl _)); replace HVX := Lib.hid (HVX.out.below ((Below.refl (w8a).heap.size (w8a)).alloc (Nat.le_refl _) (.cells #[.slice pX X.length cX, .slice qX VX.length dX] 25)) (Nat.le_refl _)); replace HB := Lib.hid (HB.out.alloc HB.out.size (.cells #[.slice pX X.length cX, .slice qX VX.length dX] 25)))
          have R8 := Lib.hid (RowAt.new w8a #[.slice pX X.length cX, .slice qX VX.length dX] 25)
          generalize w8a.alloc (.cells #[.slice pX X.length cX, .slice qX VX.length dX] 25) = w8 at *
          generalize w8a.heap.size = k8 at *
          rcases CX.out.cases with ⟨h, _⟩ | ⟨_, _, rfl, rfl, rfl⟩ | ⟨rfl, TX⟩
          · exact absurd HRI.out h
          · simp only [List.length_nil] at *
            obtain ⟨x0, x1, xf0, xf1⟩ := R8.out.c2
            go_wp2_with (fail)
            exact ⟨⟨k + 1, S, V, pS, cS, pV, cV, by omega, by omega, by simp, HRI, by omega, R5, HS, HV, HB⟩, by simp [intOf]; omega⟩
          · have hkeep := taken_keeps TX
            have hlen := taken_len TX
            have HRX := Lib.hid TX.right
            clear TX CX
            have hX16 : X.length ≤ 16 := HRX.out.1.2.2.2
            obtain ⟨t0, t1⟩ := R8.out.l2
            obtain ⟨y0, y1⟩ := R5.out.l2
            go_upto_region 12 with (fail)
            (refine region_later mix ?hB ?_; case hB => kernel_rfl); (repeat (first | go_big_quiet_step ((fail)) | quiet_step ((fail)))); (refine wpQuiet_nil ?_; rintro _ ⟨u, rfl⟩)
            clear t0 t1 y0 y1
            replace R5 := Lib.hid (R5.out.later u)
            replace R7 := Lib.hid (R7.out.later u)
            replace R8 := Lib.hid (R8.out.later u)
            replace HS := Lib.hid (HS.out.below u.below (Nat.le_refl _))
            replace HV := Lib.hid (HV.out.below u.below (Nat.le_refl _))
            replace HX := Lib.hid (HX.out.below u.below (Nat.le_refl _))
            replace HVX := Lib.hid (HVX.out.below u.below (Nat.le_refl _))
            replace HB := Lib.hid (HB.out.trans (u.below.mono HB.out.size))
            generalize u.w = w9 at *
            clear u
            have KR := rright_any (.slice pX X.length cX) (.slice qX VX.length dX) X VX w9 HX.out HVX.out (by omega) (by omega)
            rw [rightL_true HRX.out] at KR
            have KR := Lib.hid KR
            obtain ⟨g1, g2, g3, g4, g5⟩ := hkeep
            have HK := Lib.hid (And.intro g4 g5)
            clear g4 g5
            obtain ⟨x0, x1, xf0, xf1⟩ := R8.out.c2
            go_upto_region 16 with (go_at_call 7; refine KR.out.mono ?_; rintro e w10 ⟨rfl, hb⟩; (replace R5 := Lib.hid (R5.out.belowS hb); replace R7 := Lib.hid (R7.out.belowS hb); replace R8 := Lib.hid (R8.out.belowS hb); replace HS := Lib.hid (HS.out.below hb (Nat.le_refl _)); replace HV := Lib.hid (HV.out.below hb (Nat.le_refl _)); replace HX := Lib.hid (HX.out.below hb (Nat.le_refl _)); replace HVX := Lib.hid (HVX.out.below hb (Nat.le_refl _)); replace HB := Lib.hid (HB.out.trans (hb.mono HB.out.size)); clear hb); clear x0 x1 xf0 xf1)
            clear KR
            obtain ⟨x0, x1, xf0, xf1⟩ := R5.out.c2
            go_upto_region 17 with (fail)
            clear x0 x1 xf0 xf1
            have HB0 := Lib.hid (Below.refl w10.heap.size w10)
            go_loopw [12, 83] (fun s12 c wr => ∃ j : Nat, j ≤ V.length ∧ c = .int .i64 j ∧ s12 = .int .i64 (hadL (V.take j) (b1, b2, b3)) ∧ Hid (Below w10.heap.size w10 wr)) (fun _ c _ => V.length - (intOf c).toNat)
            case atStart => exact ⟨0, Nat.zero_le _, rfl, rfl, HB0⟩
            case round =>
              obtain ⟨j, hj, rfl, rfl, hbw⟩ := hrel
              have HW := Lib.hid hbw.out
              clear hbw HB0
              by_cases hjl : j < V.length
              · obtain ⟨-, -, -, HA⟩ := RowE.atB (RowE.below encB HV.out HW.out (Nat.le_refl _))
                obtain ⟨ad2, rfl, c0, c1, c2⟩ := HA j V[j] (List.getElem?_eq_getElem hjl)
                clear HA
                have hst := had_step (b := (b1, b2, b3)) hjl
                have hle := hadL_le (V.take j) (b1, b2, b3)
                have htl : (V.take j).length ≤ j := List.length_take_le _ _
                generalize V[j] = x at *
                obtain ⟨x1, x2, x3⟩ := x
                simp only at c0 c1 c2
                have RT := Lib.hid (RowAt.new wr #[.string x1, .string x2, .bool x3] 29)
                have RQ := Lib.hid ((R7.out.belowS HW.out).alloc (balO (x1, x2, x3)))
                obtain ⟨t0, t1, t2, tf0, tf1, tf2⟩ := RT.out.c3
                obtain ⟨q0, q1, q2, qf0, qf1, qf2⟩ := RQ.out.c3
                clear HK HRX
                by_cases e2 : x2 = b2
                · have f2 := seq_true e2
                  by_cases e3 : x3 = b3
                  · have f3 : (x3 == b3) = true := by simp [e3]
                    by_cases e1 : x1 = b1
                    · have f1 := seq_true e1
                      rw [if_neg (fun h => h.2.2 e1)] at hst
                      have hst := Lib.hid hst
                      clear e1 e2 e3
                      go_wp2_with (fail)
                      refine ⟨⟨j + 1, by omega, by simp, by rw [hst.out]; simp, Lib.hid (HW.out.alloc HW.out.size _)⟩, by simp [intOf]; omega⟩
                    · have f1 := seq_false e1
                      rw [if_pos ⟨e2, e3, e1⟩] at hst
                      have hst := Lib.hid hst
                      clear e1 e2 e3
                      go_wp2_with (fail)
                      refine ⟨⟨j + 1, by omega, by simp, by rw [hst.out]; simp, Lib.hid (HW.out.alloc HW.out.size _)⟩, by simp [intOf]; omega⟩
                  · have f3 : (x3 == b3) = false := by simp [e3]
                    rw [if_neg (fun h => e3 h.2.1)] at hst
                    have hst := Lib.hid hst
                    clear e2 e3
                    go_wp2_with (fail)
                    refine ⟨⟨j + 1, by omega, by simp, by rw [hst.out]; simp, Lib.hid (HW.out.alloc HW.out.size _)⟩, by simp [intOf]; omega⟩
                · have f2 := seq_false e2
                  rw [if_neg (fun h => e2 h.1)] at hst
                  have hst := Lib.hid hst
                  clear e2
                  go_wp2_with (fail)
                  refine ⟨⟨j + 1, by omega, by simp, by rw [hst.out]; simp, Lib.hid (HW.out.alloc HW.out.size _)⟩, by simp [intOf]; omega⟩
              · obtain rfl : j = V.length := by omega
                rw [List.take_length]
                have hb := HW.out
                have hdl := hadL_le V (b1, b2, b3)
                (replace R5 := Lib.hid (R5.out.belowS hb); replace R7 := Lib.hid (R7.out.belowS hb); replace R8 := Lib.hid (R8.out.belowS hb); replace HS := Lib.hid (HS.out.below hb (Nat.le_refl _)); replace HV := Lib.hid (HV.out.below hb (Nat.le_refl _)); replace HX := Lib.hid (HX.out.below hb (Nat.le_refl _)); replace HVX := Lib.hid (HVX.out.below hb (Nat.le_refl _)); replace HB := Lib.hid (HB.out.trans (hb.mono HB.out.size)); clear hb)
                obtain ⟨x0, x1⟩ := R8.out.l2
                obtain ⟨q0, q1, q2⟩ := R7.out.l3
                have hk5 := HK.out
                have KH := fun u : Later wr => has_any (.slice pX X.length cX) (.slice qX VX.length dX) X b2 u.w (RS.below HX.out u.below (Nat.le_refl _))
                generalize hadL V (b1, b2, b3) = hd at *
                clear HK HW
                by_cases hne : S.length = X.length
                · have f1 : ((S.length : Int) != (X.length : Int)) = false := by simp [hne]
                  have f2 : 2 * ((hd : Int) + 1) ≤ (S.length : Int) := by
                    have : ¬ S.length < 2 * (hd + 1) := fun h => hk5.1.2 h hne
                    omega
                  clear hk5 hne
                  go_upto_region 22 with (fail)
                  (refine region_later mix ?hB ?_; case hB => kernel_rfl); (repeat (first | go_big_quiet_step ((fail)) | quiet_step ((fail)))); (refine wpQuiet_nil ?_; rintro _ ⟨u, rfl⟩)
                  clear x0 x1 q0 q1 q2
                  replace R5 := Lib.hid (R5.out.later u)
                  replace R8 := Lib.hid (R8.out.later u)
                  replace HX := Lib.hid (HX.out.below u.below (Nat.le_refl _))
                  replace HVX := Lib.hid (HVX.out.below u.below (Nat.le_refl _))
                  replace HB := Lib.hid (HB.out.trans (u.below.mono HB.out.size))
                  generalize u.w = w11 at *
                  clear u
                  obtain ⟨x0, x1, xf0, xf1⟩ := R8.out.c2
                  obtain ⟨y0, y1, yf0, yf1⟩ := R5.out.c2
                  go_wp2
                  refine ⟨⟨k + 1, X, VX, pX, cX, qX, dX, by omega, by omega, by simp, HRX, by omega, Lib.hid ((R5.out.set 0 _ rfl).set 1 _ rfl), Lib.hid (RowE.setBox encS_ns (RowE.setBox encS_ns HX.out R5.out 0 _) (R5.out.set 0 (.slice pX X.length cX) rfl) 1 _), Lib.hid (RowE.setBox encB_ns (RowE.setBox encB_ns HVX.out R5.out 0 _) (R5.out.set 0 (.slice pX X.length cX) rfl) 1 _), Lib.hid ((HB.out.setCell (p := ⟨w.heap.size, 0, none⟩) (Nat.le_refl _) _).setCell (p := ⟨w.heap.size, 1, none⟩) (Nat.le_refl _) _)⟩, by simp [intOf]; omega⟩
                · have f1 : ((S.length : Int) != (X.length : Int)) = true := by simp; omega
                  have f2 : (S.length : Int) < 2 * ((hd : Int) + 1) := by
                    have := hk5.1.1 hne
                    omega
                  rw [hk5.2 hne] at KH
                  have KH := Lib.hid KH
                  clear hk5 hne
                  go_upto_region 22 with (fail)
                  (refine region_later mix ?hB ?_; case hB => kernel_rfl); (repeat (first | go_big_quiet_step ((go_at_call 11; with_reducible exact Later.call (KH.out _))) | quiet_step ((go_at_call 11; with_reducible exact Later.call (KH.out _))))); (refine wpQuiet_nil ?_; rintro _ ⟨u, rfl⟩)
                  clear x0 x1 q0 q1 q2
                  replace R5 := Lib.hid (R5.out.later u)
                  replace R8 := Lib.hid (R8.out.later u)
                  replace HX := Lib.hid (HX.out.below u.below (Nat.le_refl _))
                  replace HVX := Lib.hid (HVX.out.below u.below (Nat.le_refl _))
                  replace HB := Lib.hid (HB.out.trans (u.below.mono HB.out.size))
                  generalize u.w = w11 at *
                  clear u
                  obtain ⟨x0, x1, xf0, xf1⟩ := R8.out.c2
                  obtain ⟨y0, y1, yf0, yf1⟩ := R5.out.c2
                  go_wp2
                  refine ⟨⟨k + 1, X, VX, pX, cX, qX, dX, by omega, by omega, by simp, HRX, by omega, Lib.hid ((R5.out.set 0 _ rfl).set 1 _ rfl), Lib.hid (RowE.setBox encS_ns (RowE.setBox encS_ns HX.out R5.out 0 _) (R5.out.set 0 (.slice pX X.length cX) rfl) 1 _), Lib.hid (RowE.setBox encB_ns (RowE.setBox encB_ns HVX.out R5.out 0 _) (R5.out.set 0 (.slice pX X.length cX) rfl) 1 _), Lib.hid ((HB.out.setCell (p := ⟨w.heap.size, 0, none⟩) (Nat.le_refl _) _).setCell (p := ⟨w.heap.size, 1, none⟩) (Nat.le_refl _) _)⟩, by simp [intOf]; omega⟩
      · obtain rfl : k = l.length := by omega
        have HB := Lib.hid hB.out
        go_wp2_with (go_at_call 8; refine (alive_any _).mono ?_; rintro e wz ⟨rfl, hb⟩; have HZ := Lib.hid (HB.out.trans (hb.mono HB.out.size)); clear hb)
        go_ret
        exact ⟨rfl, HZ.out⟩
  · rw [rightL_false hr] at KR KP
    have KR := Lib.hid KR
    have KP := Lib.hid KP
    clear hr
    go_wp2_with (first
      | (go_at_call 7; refine KR.out.mono ?_; rintro e w2 ⟨rfl, hb⟩; (replace R5 := Lib.hid (R5.out.belowS hb); replace HB := Lib.hid (HB.out.trans (hb.mono HB.out.size)); clear hb); clear x0 x1 xf0 xf1)
      | (go_at_call 8; refine (alive_any _).mono ?_; rintro e wz ⟨rfl, hb⟩; (replace R5 := Lib.hid (R5.out.belowS hb); replace HB := Lib.hid (HB.out.trans (hb.mono HB.out.size)); clear hb); obtain ⟨x0, x1, xf0, xf1⟩ := R5.out.c2)
      | (go_at_call 9; refine (KP.out _ (RowE.below encS HS0.out HB.out (Nat.le_refl _))).mono ?_; rintro e wz ⟨rfl, hb⟩; have HE := Lib.hid (HB.out.trans (hb.mono HB.out.size)); clear hb))
    go_ret
    exact ⟨rfl, HE.out⟩
end Go.Proofs.Ytlljpnbajgcidaa

/- Vote: the document's Cast. -/
import Derived.Test.YthipnbiilobjeaaVo22
import Derived.Deep.DeepCutAuto
import Derived.Deep.RegionLaw
import Derived.BigQuiet
namespace Go.Proofs.Ythipnbiilobjeaa
open Go.RowKit Go.Shelf

set_option maxRecDepth 100000 in
set_option maxHeartbeats 4000000 in
theorem rcast_any (sv vv : Value) (S : List ByteArray) (V : List Bal) (b : Bal) (w : World) (hS : RS w sv S) (hV : RB w vv V) (hl : V.length ≤ 100000) (hl2 : S.length ≤ 100000) :
    Calls Try.prog 65 #[.agg #[sv, vv], balV b] w (RCastPost S V b w) := by
  have KR := fun W hS hV => rright_any sv vv S V W hS hV (by omega) (by omega)
  have KS := fun W hS => fits_any sv S b W hS
  have hS0 := Lib.hid hS
  have hV0 := Lib.hid hV
  obtain ⟨pS, cS, rfl, _, _⟩ := RowE.shape encS hS
  obtain ⟨pV, cV, rfl, _, _⟩ := RowE.shape encB hV
  clear hS hV
  obtain ⟨b1, b2, b3⟩ := b
  have R2 := ((RowAt.new w #[.slice pS S.length cS, .slice pV V.length cV] 45).alloc (.cells #[.string b1, .string b2, .bool b3] 92)).alloc (.cells #[.slice none 0 0, .slice none 0 0] 45)
  have R3 := (RowAt.new' (w.alloc (.cells #[.slice pS S.length cS, .slice pV V.length cV] 45)) #[.string b1, .string b2, .bool b3] 92 (k := w.heap.size + 1) (by simp)).alloc (.cells #[.slice none 0 0, .slice none 0 0] 45)
  have R4 := RowAt.new' ((w.alloc (.cells #[.slice pS S.length cS, .slice pV V.length cV] 45)).alloc (.cells #[.string b1, .string b2, .bool b3] 92)) #[.slice none 0 0, .slice none 0 0] 45 (k := w.heap.size + 2) (by simp)
  have HB0 := (belowA2 w (.cells #[.slice pS S.length cS, .slice pV V.length cV] 45) (.cells #[.string b1, .string b2, .bool b3] 92)).alloc (by simp; omega) (.cells #[.slice none 0 0, .slice none 0 0] 45)
  have ST0 : Hid (CastSt (.slice pS S.length cS) S (.slice pV V.length cV) V (b1, b2, b3) w _) := Lib.hid ⟨R2, R3, R4, .inl hS0.out, .inl hV0.out, HB0⟩
  clear R2 R3 R4 HB0 hS0 hV0
  by_cases hr : RightOk S V
  · rw [rightL_true hr] at KR
    have KR := Lib.hid KR
    have hn0 := hr.1.2.2.1
    have HRI := Lib.hid hr
    clear hr
    go_enter Try.func65, Try.ntmps65
    go_upto_region 3 with (go_at_call 62; refine (KR.out _ ST0.out.rs ST0.out.rb).mono ?_; rintro e w1 ⟨rfl, hb1⟩; have ST1 := Lib.hid (ST0.out.next hb1); clear hb1 ST0; obtain ⟨x0, x1, xf0, xf1⟩ := ST1.out.1.c2; obtain ⟨y0, y1, y2, yf0, yf1, yf2⟩ := ST1.out.2.1.c3; obtain ⟨z0, z1, g0, g1⟩ := ST1.out.2.2.1.c2)
    clear KR
    by_cases hf : Refused S (b1, b2, b3)
    · have hln : standsL S (b1, b2, b3) = false ∨ (standsL S (b1, b2, b3) = true ∧ (b3 = true → 16 ≤ S.length) ∧ (b3 = false → S.length ≤ 1)) := by
        cases e1 : standsL S (b1, b2, b3)
        · exact .inl rfl
        · refine .inr ⟨rfl, ?_⟩
          rcases hf with h | ⟨h1, h2⟩ | ⟨h1, h2⟩
          · rw [e1] at h; cases h
          · exact ⟨fun _ => h2, fun h => (by simp at h1; rw [h] at h1; cases h1)⟩
          · exact ⟨fun h => (by simp at h1; rw [h] at h1; cases h1), fun _ => h2⟩
      have HF : Hid (RCastRel S V (b1, b2, b3) [] [] 44) := Lib.hid (.inr (.inl ⟨HRI.out, hf, rfl, rfl, rfl⟩))
      clear hf
      go_cut [42] (fun t wr => t = .bool true ∧ CastSt (.slice pS S.length cS) S (.slice pV V.length cV) V (b1, b2, b3) w wr)
      case first =>
        rcases hln with e1 | ⟨e1, hln⟩
        · rw [e1] at KS
          have KS := Lib.hid KS
          clear e1
          cases b3
          all_goals
            go_wp2_with (go_at_call 110; refine (KS.out _ ST1.out.rs).mono ?_; rintro e w2 ⟨rfl, hb2⟩; have ST2 := Lib.hid (ST1.out.next hb2); clear hb2 x0 x1 xf0 xf1 y0 y1 y2 yf0 yf1 yf2 z0 z1 g0 g1; obtain ⟨x0, x1, xf0, xf1⟩ := ST2.out.1.c2; obtain ⟨y0, y1, y2, yf0, yf1, yf2⟩ := ST2.out.2.1.c3)
            go_meet
            case rel => exact ⟨rfl, ST2.out⟩
        · rw [e1] at KS
          have KS := Lib.hid KS
          clear e1
          cases b3
          all_goals
            simp at hln
            go_wp2_with (go_at_call 110; refine (KS.out _ ST1.out.rs).mono ?_; rintro e w2 ⟨rfl, hb2⟩; have ST2 := Lib.hid (ST1.out.next hb2); clear hb2 x0 x1 xf0 xf1 y0 y1 y2 yf0 yf1 yf2 z0 z1 g0 g1; obtain ⟨x0, x1, xf0, xf1⟩ := ST2.out.1.c2; obtain ⟨y0, y1, y2, yf0, yf1, yf2⟩ := ST2.out.2.1.c3)
            go_meet
            case rel => exact ⟨congrArg Value.bool (by first | (simp; done) | (simp; omega)), ST2.out⟩
      case rest =>
        obtain ⟨rfl, st⟩ := hcut
        clear x0 x1 xf0 xf1 y0 y1 y2 yf0 yf1 yf2 z0 z1 g0 g1 ST1
        have ST := Lib.hid st
        clear st
        obtain ⟨z0, z1, g0, g1⟩ := ST.out.2.2.1.c2
        go_wp2
        obtain ⟨r1, r2, r3, r4⟩ := ST.out.ans2 (s' := .slice none 0 0) (v' := .slice none 0 0) (S' := []) (V' := []) (.inl (.inl ⟨rfl, rfl⟩)) (.inl (.inl ⟨rfl, rfl⟩))
        obtain ⟨k0, k1, _, _⟩ := r1.c2
        refine bodyPost_ret (v := .tuple #[.agg #[.slice none 0 0, .slice none 0 0], .int .i64 44]) (by simp [results, Try.results65, go_sem, k0, k1]) rfl ?_
        exact ⟨_, _, [], [], 44, rfl, HF.out, r2, r3, r4⟩
    · have hn1 : b3 = true → ¬ (16 ≤ S.length) := fun h h2 => hf (.inr (.inl ⟨h, h2⟩))
      have hn2 : b3 = false → ¬ (S.length ≤ 1) := fun h h2 => hf (.inr (.inr ⟨h, h2⟩))
      have e1 : standsL S (b1, b2, b3) = true := by
        cases e : standsL S (b1, b2, b3)
        · exact absurd (.inl e) hf
        · rfl
      rw [e1] at KS
      have KS := Lib.hid KS
      have HFN := Lib.hid hf
      clear e1 hf
      go_cut [42] (fun t wr => t = .bool false ∧ CastSt (.slice pS S.length cS) S (.slice pV V.length cV) V (b1, b2, b3) w wr)
      case first =>
        cases b3
        all_goals
          simp at hn1 hn2
          go_wp2_with (go_at_call 110; refine (KS.out _ ST1.out.rs).mono ?_; rintro e w2 ⟨rfl, hb2⟩; have ST2 := Lib.hid (ST1.out.next hb2); clear hb2 x0 x1 xf0 xf1 y0 y1 y2 yf0 yf1 yf2 z0 z1 g0 g1; obtain ⟨x0, x1, xf0, xf1⟩ := ST2.out.1.c2; obtain ⟨y0, y1, y2, yf0, yf1, yf2⟩ := ST2.out.2.1.c3)
          go_meet
          case rel => exact ⟨congrArg Value.bool (by first | (simp; done) | (simp; omega)), ST2.out⟩
      case rest =>
        obtain ⟨rfl, st⟩ := hcut
        clear x0 x1 xf0 xf1 y0 y1 y2 yf0 yf1 yf2 z0 z1 g0 g1 ST1 KS hn1 hn2
        have ST := Lib.hid st
        clear st
        obtain ⟨x0, x1, xf0, xf1⟩ := ST.out.1.c2
        obtain ⟨y0, y1, y2, yf0, yf1, yf2⟩ := ST.out.2.1.c3
        go_upto_region 6 with (go_at_call 113; refine (put_any (.slice pV V.length cV) V (b1, b2, b3) wc ST.out.rb (by omega)).mono ?_; rintro e w3 ⟨v3, rfl, ho3, hb3⟩; have hV1n := putL_len V (b1, b2, b3); generalize hV1 : putL V (b1, b2, b3) = V1 at ho3 hV1n; have HV1 := Lib.hid hV1; clear hV1; have HO3 := Lib.hid (OwnE.mono encB ho3 (Nat.le_succ_of_le ST.out.size)); have ST3 := Lib.hid (ST.out.next hb3); clear ho3 hb3 x0 x1 xf0 xf1 y0 y1 y2 yf0 yf1 yf2 ST; obtain ⟨p3, c3, hv3, _, _⟩ := RowE.shape encB (OwnE.row encB HO3.out); subst hv3)
        obtain ⟨x0, x1⟩ := ST3.out.1.l2
        obtain ⟨y0, y1, y2⟩ := ST3.out.2.1.l3
        have hcl := cntL_le V1 (b1, b2, b3)
        have hw3 := wonL_int S V1 (b1, b2, b3)
        have KC := fun u : Later w3 => rcount_any (.slice p3 V1.length c3) V1 (b1, b2, b3) u.w (RowE.below encB (OwnE.row encB HO3.out) u.below (Nat.le_refl _))
        generalize hcn : cntL V1 (b1, b2, b3) = n at hcl hw3 KC
        clear hcn
        have KC := Lib.hid KC
        cases ew : wonL S V1 (b1, b2, b3)
        · rw [ew] at hw3
          have hw4 : 2 * (n : Int) ≤ (S.length : Int) := by simpa using hw3
          have EW := Lib.hid ew
          clear hw3 ew
          (refine region_later mix ?hB ?_; case hB => kernel_rfl); (repeat (first | go_big_quiet_step ((go_at_call 112; with_reducible exact Later.call (KC.out _))) | quiet_step ((go_at_call 112; with_reducible exact Later.call (KC.out _))))); (refine wpQuiet_nil ?_; rintro _ ⟨u, rfl⟩)
          clear x0 x1 y0 y1 y2
          have ST4 := Lib.hid (ST3.out.next u.below)
          have HO4 := Lib.hid (OwnE.below encB HO3.out u.below (Nat.le_refl _))
          obtain ⟨x0, x1, xf0, xf1⟩ := ST4.out.1.c2
          obtain ⟨z0, z1, g0, g1⟩ := ST4.out.2.2.1.c2
          go_wp2
          obtain ⟨r1, r2, r3, r4⟩ := ST4.out.ans2 ST4.out.2.2.2.1 (.inr HO4.out)
          obtain ⟨k0, k1, _, _⟩ := r1.c2
          refine bodyPost_ret (v := .tuple #[.agg #[.slice pS S.length cS, .slice p3 V1.length c3], .int .i64 0]) (by simp [results, Try.results65, go_sem, k0, k1]) rfl ?_
          refine ⟨_, _, S, V1, 0, rfl, .inr (.inr ⟨HRI.out, HFN.out, rfl, .inl ?_⟩), r2, r3, r4⟩
          rw [HV1.out]
          exact ⟨EW.out, rfl, rfl⟩
        · rw [ew] at hw3
          have hw4 : (S.length : Int) < 2 * (n : Int) := by simpa using hw3
          have EW := Lib.hid ew
          clear hw3 ew
          (refine region_later mix ?hB ?_; case hB => kernel_rfl); (repeat (first | go_big_quiet_step ((go_at_call 112; with_reducible exact Later.call (KC.out _))) | quiet_step ((go_at_call 112; with_reducible exact Later.call (KC.out _))))); (refine wpQuiet_nil ?_; rintro _ ⟨u, rfl⟩)
          clear x0 x1 y0 y1 y2
          have ST4 := Lib.hid (ST3.out.next u.below)
          have HO4 := Lib.hid (OwnE.below encB HO3.out u.below (Nat.le_refl _))
          generalize u.w = w4 at *
          clear u KC ST3 HO3
          have O0 : Hid (OwnE encB 92 (w4.alloc (.cells #[] 92)) w4.heap.size (.slice (some ⟨w4.heap.size, 0, none⟩) 0 0) []) := Lib.hid (OwnE.start encB (Nat.le_refl _))
          have B0 := Lib.hid (belowA w4 (.cells #[] 92))
          go_wp2
          clear hcl hw4
          go_loopw [7, 63] (fun s7 c wr => ∃ (k : Nat) (v7 : Value), k ≤ V1.length ∧ c = .int .i64 k ∧ s7 = v7 ∧ Hid (OwnE encB 92 wr w4.heap.size v7 ((V1.take k).filter fun x => !goneL (b1, b2, b3) x)) ∧ Hid (Below w4.heap.size w4 wr)) (fun _ c _ => V1.length - (intOf c).toNat)
          case atStart => exact ⟨0, _, Nat.zero_le _, rfl, rfl, O0, B0⟩
          case round =>
            obtain ⟨k, v7, hk, rfl, rfl, ho, hb⟩ := hrel
            clear O0 B0
            by_cases hlt : k < V1.length
            · obtain ⟨_, _, _, HA⟩ := (RowE.below encB (OwnE.row encB HO4.out) hb.out (Nat.le_refl _)).atB
              obtain ⟨ad, rfl, c0, c1, c2⟩ := HA k V1[k] (List.getElem?_eq_getElem hlt)
              clear HA
              have hst := filter_take_step (fun x => !goneL (b1, b2, b3) x) V1 hlt
              have htl : ((V1.take k).filter fun x => !goneL (b1, b2, b3) x).length ≤ V1.length := Nat.le_trans (List.length_filter_le _ _) (by rw [List.length_take]; omega)
              generalize V1[k] = x at *
              obtain ⟨x1, x2, x3⟩ := x
              have HX := Lib.hid (RowAt.new wr #[.string x1, .string x2, .bool x3] 92)
              have HO := Lib.hid (OwnE.below encB ho.out (belowA wr (.cells #[.string x1, .string x2, .bool x3] 92)) (Nat.le_refl _))
              have HB := Lib.hid (hb.out.alloc hb.out.size (.cells #[.string x1, .string x2, .bool x3] 92))
              have HRb := Lib.hid ((ST4.out.next HB.out).2.1)
              have hws := HB.out.size
              clear ho hb
              go_upto_region 12 with (fail)
              clear c0 c1 c2
              generalize hkx : wr.heap.size = kx at *
              generalize wr.alloc (.cells #[.string x1, .string x2, .bool x3] 92) = W at *
              clear hkx
              obtain ⟨t0, t1, t2, tf0, tf1, tf2⟩ := HX.out.c3
              obtain ⟨y0, y1, y2, yf0, yf1, yf2⟩ := HRb.out.c3
              by_cases e2 : x2 = b2
              · have q2 := seq_true e2
                have hg : goneL (b1, b2, b3) (x1, x2, x3) = true := by simp [goneL, e2]
                rw [hg] at hst
                have HST := Lib.hid hst
                clear hst hg e2
                go_wp2_with (fail)
                refine ⟨⟨k + 1, _, by omega, by simp, rfl, Lib.hid ?_, HB⟩, by simp [intOf]; omega⟩
                rw [HST.out]
                simpa using HO.out
              · have q2 := seq_false e2
                cases b3
                · by_cases e1 : x1 = b2
                  · have q1 := seq_true e1
                    have hg : goneL (b1, b2, false) (x1, x2, x3) = true := by simp [goneL, e1]
                    rw [hg] at hst
                    have HST := Lib.hid hst
                    clear hst hg e2 e1
                    go_wp2_with (fail)
                    refine ⟨⟨k + 1, _, by omega, by simp, rfl, Lib.hid ?_, HB⟩, by simp [intOf]; omega⟩
                    rw [HST.out]
                    simpa using HO.out
                  · have q1 := seq_false e1
                    have hg : goneL (b1, b2, false) (x1, x2, x3) = false := by simp [goneL, e1, e2]
                    rw [hg] at hst
                    have HST := Lib.hid hst
                    clear hst hg e2 e1
                    go_wp2_with (at_builtin; refine wpList_append_oneB rfl _ _ rfl w4.heap.size _ _ rfl HO.out (x1, x2, x3) rfl (by omega) hws ?_; intro v8 w8 ho8 hb8 hk8; replace HB := Lib.hid (HB.out.trans hb8); replace HO := Lib.hid ho8; clear hb8 hk8 ho8)
                    refine ⟨⟨k + 1, _, by omega, by simp, rfl, Lib.hid ?_, HB⟩, by simp [intOf]; omega⟩
                    rw [HST.out]
                    simpa using HO.out
                · have hg : goneL (b1, b2, true) (x1, x2, x3) = false := by simp [goneL, e2]
                  rw [hg] at hst
                  have HST := Lib.hid hst
                  clear hst hg e2
                  go_wp2_with (at_builtin; refine wpList_append_oneB rfl _ _ rfl w4.heap.size _ _ rfl HO.out (x1, x2, x3) rfl (by omega) hws ?_; intro v8 w8 ho8 hb8 hk8; replace HB := Lib.hid (HB.out.trans hb8); replace HO := Lib.hid ho8; clear hb8 hk8 ho8)
                  refine ⟨⟨k + 1, _, by omega, by simp, rfl, Lib.hid ?_, HB⟩, by simp [intOf]; omega⟩
                  rw [HST.out]
                  simpa using HO.out
            · obtain rfl : k = V1.length := by omega
              rw [List.take_length] at ho
              have hLn : (V1.filter fun x => !goneL (b1, b2, b3) x).length ≤ V1.length := List.length_filter_le _ _
              generalize hL : (V1.filter fun x => !goneL (b1, b2, b3) x) = L at ho hLn
              have HL := Lib.hid hL
              clear hL
              have HO5 := Lib.hid ho.out
              have ST5 := Lib.hid (ST4.out.next hb.out)
              have hbz := ST4.out.size
              have HB5 := Lib.hid hb.out
              clear ho hb
              obtain ⟨p7, c7, hv7, _, _⟩ := RowE.shape encB (OwnE.row encB HO5.out)
              subst hv7
              obtain ⟨x0, x1, xf0, xf1⟩ := ST5.out.1.c2
              obtain ⟨y0, y1, y2, yf0, yf1, yf2⟩ := ST5.out.2.1.c3
              go_upto_region 16 with (go_at_call 114; refine (setTo_any (.slice pS S.length cS) S b2 b3 wr ST5.out.rs (by omega)).mono ?_; rintro e w6 ⟨v6, rfl, ho6, hb6⟩; have hS2n := setToL_len S b2 b3; generalize hS2 : setToL S b2 b3 = S2 at ho6 hS2n; have HS2 := Lib.hid hS2; clear hS2; have HO6 := Lib.hid (OwnE.mono encS ho6 ST5.out.size); have ST6 := Lib.hid (ST5.out.next hb6); have HL6 := Lib.hid (OwnE.below encB HO5.out hb6 (Nat.le_refl _)); clear ho6 hb6 x0 x1 xf0 xf1 y0 y1 y2 yf0 yf1 yf2; obtain ⟨p8, c8, hv8, _, _⟩ := RowE.shape encS (OwnE.row encS HO6.out); subst hv8)
              have RO := Lib.hid (RowAt.new w6 #[.slice p8 S2.length c8, .slice none 0 0] 45)
              have B0 := Lib.hid (belowA w6 (.cells #[.slice p8 S2.length c8, .slice none 0 0] 45))
              have hz6 := ST6.out.size
              go_wp2
              go_loopw [98] (fun c wr => ∃ (k : Nat) (vo : Value) (OL : List Bal), k ≤ L.length ∧ c = .int .i64 k ∧ Hid ((L.take k).filter (fun x => b3 || !wonL S2 L x) = OL) ∧ Hid (OwnE encB 92 wr (w6.heap.size + 1) vo OL) ∧ Hid (RowAt wr w6.heap.size #[.slice p8 S2.length c8, vo] 45) ∧ Hid (Below w6.heap.size w6 wr)) (fun c _ => L.length - (intOf c).toNat)
              case atStart => exact ⟨0, _, [], Nat.zero_le _, rfl, Lib.hid (by simp), Lib.hid (OwnE.nil _ _ _ _), RO, B0⟩
              case round =>
                obtain ⟨k, vo, OL, hk, rfl, hol, ho, hr, hb⟩ := hrel
                clear RO B0
                by_cases hlt : k < L.length
                · have hg := List.getElem?_eq_getElem hlt
                  obtain ⟨_, _, _, HA⟩ := (RowE.below encB (OwnE.row encB HL6.out) hb.out (Nat.le_refl _)).atB
                  obtain ⟨ad, rfl, c0, c1, c2⟩ := HA k L[k] hg
                  clear HA hg
                  have hst := filter_take_step (fun x => b3 || !wonL S2 L x) L hlt
                  have hoL : OL.length ≤ L.length := by rw [← hol.out]; exact Nat.le_trans (List.length_filter_le _ _) (by rw [List.length_take]; omega)
                  rw [hol.out] at hst
                  generalize hxx : L[k] = x at *
                  clear hxx
                  obtain ⟨x1, x2, x3⟩ := x
                  simp only at c0 c1 c2
                  have HX := Lib.hid (RowAt.new wr #[.string x1, .string x2, .bool x3] 92)
                  have HO := Lib.hid (OwnE.below encB ho.out (belowA wr (.cells #[.string x1, .string x2, .bool x3] 92)) (Nat.le_refl _))
                  have HR := Lib.hid (hr.out.alloc (.cells #[.string x1, .string x2, .bool x3] 92))
                  have hbz6 : w6.heap.size ≤ wr.heap.size := Nat.le_of_lt hr.out.lt
                  have HB := Lib.hid (hb.out.alloc hbz6 (.cells #[.string x1, .string x2, .bool x3] 92))
                  have HRb := Lib.hid ((ST6.out.next HB.out).2.1)
                  have HLw := Lib.hid (RowE.below encB (OwnE.row encB HL6.out) HB.out (Nat.le_refl _))
                  have hcl := cntL_le L (x1, x2, x3)
                  clear ho hb hr hol
                  go_upto_region 19 with (fail)
                  clear c0 c1 c2
                  generalize hkx : wr.heap.size = kx at *
                  generalize wr.alloc (.cells #[.string x1, .string x2, .bool x3] 92) = W at *
                  clear hkx
                  obtain ⟨t0, t1, t2⟩ := HX.out.l3
                  obtain ⟨o0, o1⟩ := HR.out.l2
                  obtain ⟨y0, y1, y2⟩ := HRb.out.l3
                  cases b3
                  · have KC := fun u : Later W => rcount_any (.slice (some ad) L.length c7) L (x1, x2, x3) u.w (RowE.below encB HLw.out u.below (Nat.le_refl _))
                    have hw3 := wonL_int S2 L (x1, x2, x3)
                    cases e3 : wonL S2 L (x1, x2, x3)
                    · rw [e3] at hst hw3
                      have hw4 : 2 * (cntL L (x1, x2, x3) : Int) ≤ (S2.length : Int) := by simpa using hw3
                      clear hw3 e3
                      have HST := Lib.hid hst
                      clear hst
                      generalize cntL L (x1, x2, x3) = n2 at *
                      have KC := Lib.hid KC
                      (refine region_later mix ?hB ?_; case hB => kernel_rfl); (repeat (first | go_big_quiet_step ((go_at_call 112; with_reducible exact Later.call (KC.out _))) | quiet_step ((go_at_call 112; with_reducible exact Later.call (KC.out _))))); (refine wpQuiet_nil ?_; rintro _ ⟨u, rfl⟩)
                      have HX2 := Lib.hid (HX.out.later u)
                      have HO2 := Lib.hid (OwnE.below encB HO.out u.below (Nat.le_refl _))
                      have HR2 := Lib.hid (HR.out.later u)
                      have HB2 := Lib.hid (HB.out.trans (u.below.mono HB.out.size))
                      clear HX HO HR HB
                      have HX := HX2
                      have HO := HO2
                      have HR := HR2
                      have HB := HB2
                      clear HX2 HO2 HR2 HB2
                      clear t0 t1 t2 o0 o1 y0 y1 y2
                      generalize u.w = W2 at *
                      clear u
                      go_upto_region 20 with (fail)
                      have hz0 := HR.out.lt
                      have hz1 : ¬ w6.heap.size = W2.heap.size := by omega
                      have hz2 := HX.out.lt
                      have hz3 : ¬ kx = W2.heap.size := by omega
                      have hws : w6.heap.size + 1 ≤ W2.heap.size := hz0
                      clear HRb KR ST4 ST5 ST6 HL6 HLw HO5 HO6
                      obtain ⟨o0, o1, of0, of1⟩ := HR.out.c2
                      obtain ⟨t0, t1, t2, tf0, tf1, tf2⟩ := HX.out.c3
                      go_wp2_with (at_builtin; refine wpList_append_oneB rfl _ _ rfl (w6.heap.size + 1) _ _ rfl HO.out (x1, x2, x3) rfl (by omega) hws ?_; intro v9 w9 ho9 hb9 hk9; clear hk9; generalize hOL2 : OL ++ [(x1, x2, x3)] = OL2 at ho9; have HOL2 := Lib.hid hOL2; clear hOL2; have HO9 := Lib.hid ho9; have HR9 := Lib.hid (RowAt.below HR.out hb9 (Nat.lt_succ_self _)); have HB9 := Lib.hid (HB.out.trans (hb9.mono (Nat.le_succ _))); clear ho9 hb9 o0 o1 of0 of1 t0 t1 t2 tf0 tf1 tf2; obtain ⟨m0, m1, mf0, mf1⟩ := HR9.out.c2; obtain ⟨p9, c9, hv9, _, _⟩ := RowE.shape encB (OwnE.row encB HO9.out); subst hv9)
                      refine ⟨⟨k + 1, _, OL2, by omega, by simp, Lib.hid ?_, Lib.hid (HO9.out.other _ _ (Nat.lt_succ_self _)), Lib.hid (HR9.out.set 1 _ rfl), Lib.hid (HB9.out.setCell (Nat.le_refl _) _)⟩, by simp [intOf]; omega⟩
                      rw [HST.out, ← HOL2.out]
                      simp
                    · rw [e3] at hst hw3
                      have hw4 : (S2.length : Int) < 2 * (cntL L (x1, x2, x3) : Int) := by simpa using hw3
                      clear hw3 e3
                      have HST := Lib.hid hst
                      clear hst
                      generalize cntL L (x1, x2, x3) = n2 at *
                      have KC := Lib.hid KC
                      (refine region_later mix ?hB ?_; case hB => kernel_rfl); (repeat (first | go_big_quiet_step ((go_at_call 112; with_reducible exact Later.call (KC.out _))) | quiet_step ((go_at_call 112; with_reducible exact Later.call (KC.out _))))); (refine wpQuiet_nil ?_; rintro _ ⟨u, rfl⟩)
                      have HX2 := Lib.hid (HX.out.later u)
                      have HO2 := Lib.hid (OwnE.below encB HO.out u.below (Nat.le_refl _))
                      have HR2 := Lib.hid (HR.out.later u)
                      have HB2 := Lib.hid (HB.out.trans (u.below.mono HB.out.size))
                      clear HX HO HR HB
                      have HX := HX2
                      have HO := HO2
                      have HR := HR2
                      have HB := HB2
                      clear HX2 HO2 HR2 HB2
                      clear t0 t1 t2 o0 o1 y0 y1 y2
                      generalize u.w = W2 at *
                      clear u
                      go_wp2_with (fail)
                      refine ⟨⟨k + 1, _, OL, by omega, by simp, Lib.hid ?_, HO, HR, HB⟩, by simp [intOf]; omega⟩
                      rw [HST.out]
                      simp
                  · have HST := Lib.hid hst
                    clear hst
                    (refine region_later mix ?hB ?_; case hB => kernel_rfl); (repeat (first | go_big_quiet_step ((fail)) | quiet_step ((fail)))); (refine wpQuiet_nil ?_; rintro _ ⟨u, rfl⟩)
                    have HX2 := Lib.hid (HX.out.later u)
                    have HO2 := Lib.hid (OwnE.below encB HO.out u.below (Nat.le_refl _))
                    have HR2 := Lib.hid (HR.out.later u)
                    have HB2 := Lib.hid (HB.out.trans (u.below.mono HB.out.size))
                    clear HX HO HR HB
                    have HX := HX2
                    have HO := HO2
                    have HR := HR2
                    have HB := HB2
                    clear HX2 HO2 HR2 HB2
                    clear t0 t1 t2 o0 o1 y0 y1 y2
                    generalize u.w = W2 at *
                    clear u
                    go_upto_region 20 with (fail)
                    have hz0 := HR.out.lt
                    have hz1 : ¬ w6.heap.size = W2.heap.size := by omega
                    have hz2 := HX.out.lt
                    have hz3 : ¬ kx = W2.heap.size := by omega
                    have hws : w6.heap.size + 1 ≤ W2.heap.size := hz0
                    clear HRb KR ST4 ST5 ST6 HL6 HLw HO5 HO6
                    obtain ⟨o0, o1, of0, of1⟩ := HR.out.c2
                    obtain ⟨t0, t1, t2, tf0, tf1, tf2⟩ := HX.out.c3
                    go_wp2_with (at_builtin; refine wpList_append_oneB rfl _ _ rfl (w6.heap.size + 1) _ _ rfl HO.out (x1, x2, x3) rfl (by omega) hws ?_; intro v9 w9 ho9 hb9 hk9; clear hk9; generalize hOL2 : OL ++ [(x1, x2, x3)] = OL2 at ho9; have HOL2 := Lib.hid hOL2; clear hOL2; have HO9 := Lib.hid ho9; have HR9 := Lib.hid (RowAt.below HR.out hb9 (Nat.lt_succ_self _)); have HB9 := Lib.hid (HB.out.trans (hb9.mono (Nat.le_succ _))); clear ho9 hb9 o0 o1 of0 of1 t0 t1 t2 tf0 tf1 tf2; obtain ⟨m0, m1, mf0, mf1⟩ := HR9.out.c2; obtain ⟨p9, c9, hv9, _, _⟩ := RowE.shape encB (OwnE.row encB HO9.out); subst hv9)
                    refine ⟨⟨k + 1, _, OL2, by omega, by simp, Lib.hid ?_, Lib.hid (HO9.out.other _ _ (Nat.lt_succ_self _)), Lib.hid (HR9.out.set 1 _ rfl), Lib.hid (HB9.out.setCell (Nat.le_refl _) _)⟩, by simp [intOf]; omega⟩
                    rw [HST.out, ← HOL2.out]
                    simp
                · obtain rfl : k = L.length := by omega
                  have ST7 := Lib.hid (ST6.out.next hb.out)
                  have HO7 := Lib.hid ho.out
                  have HR7 := Lib.hid hr.out
                  have HOL := Lib.hid hol.out
                  have HS7 := Lib.hid (OwnE.below encS HO6.out hb.out (Nat.le_refl _))
                  clear ho hr hb hol
                  obtain ⟨po, co, hvo, _, _⟩ := RowE.shape encB (OwnE.row encB HO7.out)
                  subst hvo
                  obtain ⟨x0, x1, xf0, xf1⟩ := HR7.out.c2
                  obtain ⟨z0, z1, g0, g1⟩ := ST7.out.2.2.1.c2
                  go_wp2
                  obtain ⟨r1, r2, r3, r4⟩ := ST7.out.ans2 (.inr HS7.out) (.inr (OwnE.mono encB HO7.out (by omega)))
                  obtain ⟨k0, k1, _, _⟩ := r1.c2
                  refine bodyPost_ret (v := .tuple #[.agg #[.slice p8 S2.length c8, .slice po OL.length co], .int .i64 0]) (by simp [results, Try.results65, go_sem, k0, k1]) rfl ?_
                  refine ⟨_, _, S2, OL, 0, rfl, .inr (.inr ⟨HRI.out, HFN.out, rfl, .inr ?_⟩), r2, r3, r4⟩
                  rw [HV1.out]
                  refine ⟨EW.out, HS2.out.symm, ?_⟩
                  have h1 := HOL.out
                  rw [List.take_length] at h1
                  rw [← h1, ← HL.out]
                  rfl
  · rw [rightL_false hr] at KR
    have KR := Lib.hid KR
    have HF : Hid (RCastRel S V (b1, b2, b3) [] [] 1) := Lib.hid (.inl ⟨hr, rfl, rfl, rfl⟩)
    clear hr
    go_enter Try.func65, Try.ntmps65
    go_wp2_with (go_at_call 62; refine (KR.out _ ST0.out.rs ST0.out.rb).mono ?_; rintro e w1 ⟨rfl, hb1⟩; have ST1 := Lib.hid (ST0.out.next hb1); clear hb1 ST0; obtain ⟨z0, z1, g0, g1⟩ := ST1.out.2.2.1.c2)
    obtain ⟨r1, r2, r3, r4⟩ := ST1.out.ans2 (s' := .slice none 0 0) (v' := .slice none 0 0) (S' := []) (V' := []) (.inl (.inl ⟨rfl, rfl⟩)) (.inl (.inl ⟨rfl, rfl⟩))
    obtain ⟨k0, k1, _, _⟩ := r1.c2
    refine bodyPost_ret (v := .tuple #[.agg #[.slice none 0 0, .slice none 0 0], .int .i64 1]) (by simp [results, Try.results65, go_sem, k0, k1]) rfl ?_
    exact ⟨_, _, [], [], 1, rfl, HF.out, r2, r3, r4⟩
end Go.Proofs.Ythipnbiilobjeaa

/- Vote: a vote that is taken. -/
import Derived.Test.YthipnbiilobjeaaVo17
import Derived.Deep.DeepCutAuto
import Derived.Deep.RegionWith
import Derived.Shelf.Abstract
namespace Go.Proofs.Ythipnbiilobjeaa
open Go.RowKit Go.Shelf

theorem cut_lt {l : List ByteArray} {b : ByteArray} {i : Nat} (h : CutAt ltS l b i) (hm : b ∈ l) : i < l.length := by
  rcases Nat.lt_or_ge i l.length with h' | h'
  · exact h'
  · obtain ⟨j, hj⟩ := List.getElem?_of_mem hm
    have hlt : j < l.length := by
      rcases Nat.lt_or_ge j l.length with q | q
      · exact q
      · rw [List.getElem?_eq_none q] at hj; cases hj
    have := h.2.1 j b hj (by omega)
    rw [ltS_irr] at this
    cases this

set_option maxRecDepth 100000 in
set_option maxHeartbeats 4000000 in
theorem cast_taken (sv vv : Value) (S : List ByteArray) (V : List Bal) (b : Bal) (w : World) (hS : RS w sv S) (hV : RB w vv V) (hl : V.length ≤ 100000) (hl2 : S.length ≤ 100000) (hr : RightOk S V) (hf : ¬ Refused S b) :
    Calls Try.prog 61 #[.agg #[sv, vv], balV b] w (CastPost S V b w) := by
  have KR := fun W hS hV => right_any sv vv S V W hS hV (by omega) (by omega)
  rw [rightL_true hr] at KR
  have KR := Lib.hid KR
  have KS := fun W vv hS => stands_any sv vv S b W hS
  have e1 : standsL S b = true := by
    cases e : standsL S b
    · exact absurd (.inl e) hf
    · rfl
  rw [e1] at KS
  have KS := Lib.hid KS
  have hn1 : b.2.2 = true → ¬ (16 ≤ S.length) := fun h h2 => hf (.inr (.inl ⟨h, h2⟩))
  have hn2 : b.2.2 = false → ¬ (S.length ≤ 1) := fun h h2 => hf (.inr (.inr ⟨h, h2⟩))
  have HSo : Hid (SortedBy ltB V) := Lib.hid (sorted_of_adj (@ltB_trans) hr.2.2)
  have HRI := Lib.hid hr
  have HFN := Lib.hid hf
  have hS0 := Lib.hid hS
  have hV0 := Lib.hid hV
  obtain ⟨pS, cS, rfl, _, _⟩ := RowE.shape encS hS
  obtain ⟨pV, cV, rfl, _, _⟩ := RowE.shape encB hV
  clear hS hV hr e1 hf
  obtain ⟨b1, b2, b3⟩ := b
  have R2 := ((RowAt.new w #[.slice pS S.length cS, .slice pV V.length cV] 45).alloc (.cells #[.string b1, .string b2, .bool b3] 92)).alloc (.cells #[.slice none 0 0, .slice none 0 0] 45)
  have R3 := (RowAt.new' (w.alloc (.cells #[.slice pS S.length cS, .slice pV V.length cV] 45)) #[.string b1, .string b2, .bool b3] 92 (k := w.heap.size + 1) (by simp)).alloc (.cells #[.slice none 0 0, .slice none 0 0] 45)
  have R4 := RowAt.new' ((w.alloc (.cells #[.slice pS S.length cS, .slice pV V.length cV] 45)).alloc (.cells #[.string b1, .string b2, .bool b3] 92)) #[.slice none 0 0, .slice none 0 0] 45 (k := w.heap.size + 2) (by simp)
  have HB0 := (belowA2 w (.cells #[.slice pS S.length cS, .slice pV V.length cV] 45) (.cells #[.string b1, .string b2, .bool b3] 92)).alloc (by simp; omega) (.cells #[.slice none 0 0, .slice none 0 0] 45)
  have ST0 : Hid (CastSt (.slice pS S.length cS) S (.slice pV V.length cV) V (b1, b2, b3) w _) := Lib.hid ⟨R2, R3, R4, .inl hS0.out, .inl hV0.out, HB0⟩
  clear R2 R3 R4 HB0 hS0 hV0
  simp only at hn1 hn2
  go_enter Try.func61, Try.ntmps61
  go_upto_region 3 with (go_at_call 57; refine (KR.out _ ST0.out.rs ST0.out.rb).mono ?_; rintro e w1 ⟨rfl, hb1⟩; have ST1 := Lib.hid (ST0.out.next hb1); clear hb1 ST0; obtain ⟨x0, x1, xf0, xf1⟩ := ST1.out.1.c2; obtain ⟨y0, y1, y2, yf0, yf1, yf2⟩ := ST1.out.2.1.c3)
  clear KR
  go_cut [39] (fun t wr => t = .bool false ∧ CastSt (.slice pS S.length cS) S (.slice pV V.length cV) V (b1, b2, b3) w wr)
  case first =>
    cases b3
    all_goals
      simp at hn1 hn2
      go_wp2_with (go_at_call 96; refine (KS.out _ _ ST1.out.rs).mono ?_; rintro e w2 ⟨rfl, hb2⟩; have ST2 := Lib.hid (ST1.out.next hb2); clear hb2 x0 x1 xf0 xf1 y0 y1 y2 yf0 yf1 yf2; obtain ⟨x0, x1, xf0, xf1⟩ := ST2.out.1.c2; obtain ⟨y0, y1, y2, yf0, yf1, yf2⟩ := ST2.out.2.1.c3)
      go_meet
      case rel => exact ⟨congrArg Value.bool (decide_eq_false (by omega)), ST2.out⟩
  case rest =>
    obtain ⟨rfl, st⟩ := hcut
    clear x0 x1 xf0 xf1 y0 y1 y2 yf0 yf1 yf2 ST1 KS hn1 hn2
    have ST := Lib.hid st
    clear st
    obtain ⟨x0, x1, xf0, xf1⟩ := ST.out.1.c2
    obtain ⟨y0, y1, y2, yf0, yf1, yf2⟩ := ST.out.2.1.c3
    go_upto_if 49 with (go_at_call 100; fail)
    refine (search_any (.slice pV V.length cV) V (b1, b2, b3) _ ST.out.rb (by omega) HSo.out).mono ?_
    rintro e w3 ⟨⟨i, r, rfl, hcut, hfound⟩, hb3⟩
    have ST3 := Lib.hid (ST.out.next hb3)
    have HCut := Lib.hid hcut
    have HFd := Lib.hid hfound
    clear hb3 hcut hfound ST HSo x0 x1 xf0 xf1 y0 y1 y2 yf0 yf1 yf2
    obtain ⟨x0, x1, xf0, xf1⟩ := ST3.out.1.c2
    obtain ⟨y0, y1, y2, yf0, yf1, yf2⟩ := ST3.out.2.1.c3
    go_upto_if 49 with (fail)
    go_cut [] (fun wr => ∃ p1 c1 V1, PutIn V (b1, b2, b3) V1 ∧ V1.length ≤ V.length + 1 ∧ CastSt (.slice pS S.length cS) S (.slice p1 V1.length c1) V1 (b1, b2, b3) w wr)
    case first =>
      cases r
      · go_upto_region 7 with (fail)
        have hsz := ST3.out.size
        have hz0 : ¬ w.heap.size = w3.heap.size := by omega
        have hz1 : ¬ w.heap.size + 1 = w3.heap.size := by omega
        have hz2 : w.heap.size < w3.heap.size := by omega
        have hz3 : w.heap.size + 1 < w3.heap.size := by omega
        go_region_with (first
          | (go_at_call 102; refine (cloneB_any (.slice pV V.length cV) V _ ?_ (by omega)).mono ?_; (first | with_reducible exact ST3.out.drew.rb | with_reducible exact (ST3.out.next (belowA w3 _)).drew.rb); rintro e w5 ⟨v5, rfl, ho5, hb5⟩; (first | (have HB5 : Hid (Below w3.heap.size w3 w5) := Lib.hid (by with_reducible exact drewB hb5); have HN5 := Lib.hid (True.intro)) | (have HB5 : Hid (Below w3.heap.size w3 w5) := Lib.hid (by with_reducible exact allocB hb5); have HN5 := Lib.hid (And.intro ((RowAt.new w3 _ _).drew.belowS hb5) (fun h => absurd (World.ownsRow.lt ho5 _ h).1 (by simp) : ¬ v5.ownBlock = some w3.heap.size)))); have ST5 := Lib.hid (ST3.out.next HB5.out); have HO5 : Hid (OwnE encB 92 w5 w3.heap.size v5 V) := Lib.hid (OwnE.mono encB ho5 (by simp)); clear ho5 hb5 x0 x1 xf0 xf1 y0 y1 y2 yf0 yf1 yf2; obtain ⟨x0, x1, xf0, xf1⟩ := ST5.out.1.c2; obtain ⟨y0, y1, y2, yf0, yf1, yf2⟩ := ST5.out.2.1.c3)
          | (go_at_call 101; refine (insertB_any v5 V i (b1, b2, b3) _ _ w3.heap.size ?own HCut.out.1 ?hB ?row ?ne (by omega)).mono ?_; (case own => (first | with_reducible exact HO5.out | with_reducible exact OwnE.below encB HO5.out (belowA w5 _) (Nat.le_refl _))); (case hB => (first | with_reducible exact HB5.out.size | with_reducible exact (HB5.out.alloc HB5.out.size _).size)); (case row => (first | with_reducible exact RowAt.new w5 _ _ | with_reducible exact HN5.out.1)); (case ne => (first | exact HN5.out.2 | exact fun h => Nat.lt_irrefl _ (World.ownsRow.lt HO5.out _ h).2)); rintro e w6 ⟨v6, rfl, ho6, hb6⟩; generalize hV6 : List.take i V ++ (b1, b2, b3) :: List.drop i V = V6 at ho6; have HV6 := Lib.hid hV6; clear hV6; have HO6 := Lib.hid ho6; have HB6 : Hid (Below w3.heap.size w3 w6) := Lib.hid (by first | with_reducible exact HB5.out.trans hb6 | with_reducible exact (HB5.out.alloc HB5.out.size _).trans hb6); clear ho6 hb6; have ST6 := Lib.hid (ST3.out.next HB6.out); clear x0 x1 xf0 xf1 y0 y1 y2 yf0 yf1 yf2; obtain ⟨x0, x1, xf0, xf1⟩ := ST6.out.1.c2; obtain ⟨pv6, cv6, hv6, _, _⟩ := RowE.shape encB (OwnE.row encB HO6.out); subst hv6))
        all_goals
          go_wp2_with (fail)
          go_meet
          case rel => exact ⟨_, _, _, ⟨i, HCut.out, .inr ⟨(by simpa using HFd.out), HV6.out.symm⟩⟩, by rw [← HV6.out]; simp; omega, ST6.out.setV (OwnE.mono encB HO6.out hsz)⟩
      · go_wp2
        go_meet
        case rel => exact ⟨_, _, V, ⟨i, HCut.out, .inl ⟨(by simpa using HFd.out), rfl⟩⟩, by omega, ST3.out⟩
    case rest =>
      obtain ⟨p1, c1, V1, hput, hlen, st⟩ := hcut
      have ST4 := Lib.hid st
      have HPut := Lib.hid hput
      clear st hput ST3 HCut HFd x0 x1 xf0 xf1 y0 y1 y2 yf0 yf1 yf2
      obtain ⟨x0, x1, xf0, xf1⟩ := ST4.out.1.c2
      obtain ⟨y0, y1, y2, yf0, yf1, yf2⟩ := ST4.out.2.1.c3
      have KW := fun W hS hV => won_any (.slice pS S.length cS) (.slice p1 V1.length c1) S V1 (b1, b2, b3) W hS hV (by omega)
      cases ew : wonL S V1 (b1, b2, b3)
      · rw [ew] at KW
        have EW := Lib.hid ew
        have KW := Lib.hid KW
        clear ew
        go_wp2_with (go_at_call 98; refine (KW.out _ ST4.out.rs ST4.out.rb).mono ?_; rintro e w5 ⟨rfl, hb5⟩; have ST5 := Lib.hid (ST4.out.next hb5); clear hb5 ST4 x0 x1 xf0 xf1 y0 y1 y2 yf0 yf1 yf2; obtain ⟨x0, x1, xf0, xf1⟩ := ST5.out.1.c2; obtain ⟨z0, z1, zf0, zf1⟩ := ST5.out.2.2.1.c2)
        obtain ⟨r1, r2, r3, r4⟩ := ST5.out.ans
        obtain ⟨k0, k1, _, _⟩ := r1.c2
        refine bodyPost_ret (v := .tuple #[.agg #[.slice pS S.length cS, .slice p1 V1.length c1], .int .i64 0]) (by simp [results, Try.results61, go_sem, k0, k1]) rfl ?_
        exact ⟨_, _, S, V1, 0, rfl, .inr (.inr ⟨HRI.out, HFN.out, rfl, V1, HPut.out, .inl ⟨EW.out, rfl, rfl⟩⟩), r2, r3, r4⟩
      · rw [ew] at KW
        have EW := Lib.hid ew
        have KW := Lib.hid KW
        clear ew
        go_upto_region 10 with (go_at_call 98; refine (KW.out _ ST4.out.rs ST4.out.rb).mono ?_; rintro e w5 ⟨rfl, hb5⟩; have ST5 := Lib.hid (ST4.out.next hb5); clear hb5 ST4 x0 x1 xf0 xf1 y0 y1 y2 yf0 yf1 yf2; obtain ⟨x0, x1, xf0, xf1⟩ := ST5.out.1.c2; obtain ⟨z0, z1, zf0, zf1⟩ := ST5.out.2.2.1.c2)
        clear KW
        have eg1 : ∀ args w, (callFunc 104 args).run Try.prog w = .ok (.enter 104 args) w := enters_of Try.func104 (by kernel_rfl) rfl
        have HP1 : Hid (PredB 104 #[.pointer (some ⟨w.heap.size + 1, 0, none⟩)] (goneL (b1, b2, b3)) w5.heap.size w5) := Lib.hid (fun W x hW => cast1_any (b1, b2, b3) x (w.heap.size + 1) W (ST5.out.2.1.belowS hW))
        go_upto_region 11 with (go_at_call 103; refine (without_any 104 #[.pointer (some ⟨w.heap.size + 1, 0, none⟩)] (goneL (b1, b2, b3)) eg1 (.slice p1 V1.length c1) V1 w5 ST5.out.rb (by omega) HP1.out).mono ?_; rintro e w6 ⟨v6, rfl, ho6, hb6⟩; generalize hV2 : V1.filter (fun x => !goneL (b1, b2, b3) x) = V2 at ho6; have HV2 := Lib.hid hV2; clear hV2; have HO6 := Lib.hid (OwnE.mono encB ho6 ST5.out.size); have ST6 := Lib.hid (ST5.out.next hb6); clear ho6 hb6 x0 x1 xf0 xf1; obtain ⟨x0, x1, xf0, xf1⟩ := ST6.out.1.c2; obtain ⟨p2, c2, hv6, _, _⟩ := RowE.shape encB (OwnE.row encB HO6.out); subst hv6)
        have ST7 := Lib.hid (ST6.out.setV HO6.out)
        clear x0 x1 xf0 xf1 HO6
        generalize w6.setCell ⟨w.heap.size, 1, none⟩ (.slice p2 V2.length c2) = w7 at *
        obtain ⟨x0, x1, xf0, xf1⟩ := ST7.out.1.c2
        obtain ⟨y0, y1, y2, yf0, yf1, yf2⟩ := ST7.out.2.1.c3
        have HSs : Hid (SortedBy ltS S) := Lib.hid (sorted_of_adj (@ltS_trans) HRI.out.1.2.1)
        go_upto_region 12 with (go_at_call 105; refine (searchS_any (.slice pS S.length cS) S b2 w7 ST7.out.rs (by omega) HSs.out).mono ?_; rintro e w8 ⟨⟨i2, r2, rfl, hcut2⟩, hb8⟩; have HCut2 := Lib.hid hcut2; have ST8 := Lib.hid (ST7.out.next hb8); clear hcut2 hb8 x0 x1 xf0 xf1 y0 y1 y2 yf0 yf1 yf2; obtain ⟨x0, x1, xf0, xf1⟩ := ST8.out.1.c2; obtain ⟨y0, y1, y2, yf0, yf1, yf2⟩ := ST8.out.2.1.c3)
        have hlen2 : V2.length ≤ 1000000 := by rw [← HV2.out]; exact Nat.le_trans (List.length_filter_le _ _) (by omega)
        cases b3
        · have hi2 : i2 < S.length := cut_lt HCut2.out (by
            have := HFN.out
            unfold Refused standsL at this
            simp only [not_or, Bool.not_eq_false, Bool.and_eq_true, beq_iff_eq] at this
            exact (hasL_iff _ _).1 (by simpa using this.1.2))
          have hi3 : IntKind.i64.wrap ((i2 : Int) + 1) = (i2 : Int) + 1 := IntWalk.i64_in _ (by omega)
          go_upto_region 16 with (first
            | (go_at_call 107; refine (cloneS_any (.slice pS S.length cS) S _ ST8.out.rs (by omega)).mono ?_; rintro e w9 ⟨v9, rfl, ho9, hb9⟩; have HO9 := Lib.hid ho9; have HB9 := Lib.hid hb9; have ST9 := Lib.hid (ST8.out.next hb9); clear ho9 hb9 x0 x1 xf0 xf1 y0 y1 y2 yf0 yf1 yf2; obtain ⟨x0, x1, xf0, xf1⟩ := ST9.out.1.c2)
            | (go_at_call 108; refine (deleteS_any v9 S i2 w9 _ HO9.out hi2 HB9.out.size (by omega)).mono ?_; rintro e w10 ⟨v10, rfl, ho10, hb10⟩; generalize hS2 : List.take i2 S ++ List.drop (i2 + 1) S = S2 at ho10; have HS2 := Lib.hid hS2; clear hS2; have HO10 := Lib.hid (OwnE.mono encS ho10 ST8.out.size); have ST10 := Lib.hid (ST8.out.next (HB9.out.trans hb10)); clear ho10 hb10 ST9 HO9 x0 x1 xf0 xf1; obtain ⟨x0, x1, xf0, xf1⟩ := ST10.out.1.c2; obtain ⟨p3, c3, hv10, _, _⟩ := RowE.shape encS (OwnE.row encS HO10.out); subst hv10))
          have ST11 := Lib.hid (ST10.out.setS HO10.out)
          clear x0 x1 xf0 xf1 HO10 ST10
          generalize w10.setCell ⟨w.heap.size, 0, none⟩ (.slice p3 S2.length c3) = w11 at *
          obtain ⟨x0, x1, xf0, xf1⟩ := ST11.out.1.c2
          have ST12 := Lib.hid (ST11.out.next (belowA w11 (.cells #[.slice p3 S2.length c3, .slice p2 V2.length c2] 45)))
          have RL := Lib.hid (RowAt.new w11 #[.slice p3 S2.length c3, .slice p2 V2.length c2] 45)
          have hsz := ST11.out.size
          have hz0 : ¬ w.heap.size = w11.heap.size := by omega
          have hz2 : w.heap.size < w11.heap.size := by omega
          have hl3 : S2.length ≤ 1000000 := by rw [← HS2.out]; simp; omega
          have eg2 : ∀ args w, (callFunc 109 args).run Try.prog w = .ok (.enter 109 args) w := enters_of Try.func109 (by kernel_rfl) rfl
          have HP2 : Hid (PredB 109 #[.pointer (some ⟨w11.heap.size, 0, none⟩)] (wonL S2 V2) (w11.alloc (.cells #[.slice p3 S2.length c3, .slice p2 V2.length c2] 45)).heap.size (w11.alloc (.cells #[.slice p3 S2.length c3, .slice p2 V2.length c2] 45))) := Lib.hid (fun W x hW => cast2_any (.slice p3 S2.length c3) (.slice p2 V2.length c2) S2 V2 x w11.heap.size W (RL.out.belowS hW) (ST12.out.next hW).rs (ST12.out.next hW).rb hlen2 hl3)
          go_upto_region 17 with (fail)
          go_upto_region 18 with (go_at_call 103; refine (without_any 109 #[.pointer (some ⟨w11.heap.size, 0, none⟩)] (wonL S2 V2) eg2 (.slice p2 V2.length c2) V2 _ ST12.out.rb hlen2 HP2.out).mono ?_; rintro e w13 ⟨v13, rfl, ho13, hb13⟩; generalize hV3 : V2.filter (fun x => !wonL S2 V2 x) = V3 at ho13; have HV3 := Lib.hid hV3; clear hV3; have HO13 := Lib.hid (OwnE.mono encB ho13 ST12.out.size); have ST13 := Lib.hid (ST12.out.next hb13); clear ho13 hb13 x0 x1 xf0 xf1; obtain ⟨x0, x1, xf0, xf1⟩ := ST13.out.1.c2; obtain ⟨p4, c4, hv13, _, _⟩ := RowE.shape encB (OwnE.row encB HO13.out); subst hv13)
          have ST14 := Lib.hid (ST13.out.setV HO13.out)
          clear x0 x1 xf0 xf1 HO13 ST13
          generalize w13.setCell ⟨w.heap.size, 1, none⟩ (.slice p4 V3.length c4) = w14 at *
          clear z0 z1 zf0 zf1
          obtain ⟨x0, x1, xf0, xf1⟩ := ST14.out.1.c2
          obtain ⟨z0, z1, zf0, zf1⟩ := ST14.out.2.2.1.c2
          go_wp2
          obtain ⟨q1, q2, q3, q4⟩ := ST14.out.ans
          obtain ⟨k0, k1, _, _⟩ := q1.c2
          refine bodyPost_ret (v := .tuple #[.agg #[.slice p3 S2.length c3, .slice p4 V3.length c4], .int .i64 0]) (by simp [results, Try.results61, go_sem, k0, k1]) rfl ?_
          refine ⟨_, _, S2, V3, 0, rfl, .inr (.inr ⟨HRI.out, HFN.out, rfl, V1, HPut.out, .inr ⟨EW.out, i2, HCut2.out, .inr ⟨rfl, HS2.out.symm, ?_⟩⟩⟩), q2, q3, q4⟩
          rw [← HV3.out, ← HV2.out]
        · go_upto_region 13 with (fail)
          have hsz := ST8.out.size
          have hz0 : ¬ w.heap.size = w8.heap.size := by omega
          have hz1 : ¬ w.heap.size + 1 = w8.heap.size := by omega
          have hz2 : w.heap.size < w8.heap.size := by omega
          have hz3 : w.heap.size + 1 < w8.heap.size := by omega
          clear z0 z1 zf0 zf1 HP1 eg1 ST5 ST6 ST7 KW KR KS
          go_region_with (first
            | (go_at_call 107; refine (cloneS_any (.slice pS S.length cS) S _ ?_ (by omega)).mono ?_; (first | with_reducible exact ST8.out.drew.rs | with_reducible exact (ST8.out.next (belowA w8 _)).drew.rs); rintro e w9 ⟨v9, rfl, ho9, hb9⟩; (first | (have HB9 : Hid (Below w8.heap.size w8 w9) := Lib.hid (by with_reducible exact drewB hb9); have HN9 := Lib.hid (True.intro)) | (have HB9 : Hid (Below w8.heap.size w8 w9) := Lib.hid (by with_reducible exact allocB hb9); have HN9 := Lib.hid (And.intro ((RowAt.new w8 _ _).drew.belowS hb9) (fun h => absurd (World.ownsRow.lt ho9 _ h).1 (by simp) : ¬ v9.ownBlock = some w8.heap.size)))); have ST9 := Lib.hid (ST8.out.next HB9.out); have HO9 : Hid (OwnE encS 9 w9 w8.heap.size v9 S) := Lib.hid (OwnE.mono encS ho9 (by simp)); clear ho9 hb9 x0 x1 xf0 xf1 y0 y1 y2 yf0 yf1 yf2; obtain ⟨x0, x1, xf0, xf1⟩ := ST9.out.1.c2; obtain ⟨y0, y1, y2, yf0, yf1, yf2⟩ := ST9.out.2.1.c3)
            | (go_at_call 106; refine (insertS_any v9 S i2 b2 _ _ w8.heap.size ?own HCut2.out.1 ?hB ?row ?ne (by omega)).mono ?_; (case own => (first | with_reducible exact HO9.out | with_reducible exact OwnE.below encS HO9.out (belowA w9 _) (Nat.le_refl _))); (case hB => (first | with_reducible exact HB9.out.size | with_reducible exact (HB9.out.alloc HB9.out.size _).size)); (case row => (first | with_reducible exact RowAt.new w9 _ _ | with_reducible exact HN9.out.1)); (case ne => (first | exact HN9.out.2 | exact fun h => Nat.lt_irrefl _ (World.ownsRow.lt HO9.out _ h).2)); rintro e w10 ⟨v10, rfl, ho10, hb10⟩; generalize hS2 : List.take i2 S ++ b2 :: List.drop i2 S = S2 at ho10; have HS2 := Lib.hid hS2; clear hS2; have HO10 := Lib.hid (OwnE.mono encS ho10 hsz); have HB10 : Hid (Below w8.heap.size w8 w10) := Lib.hid (by first | with_reducible exact HB9.out.trans hb10 | with_reducible exact (HB9.out.alloc HB9.out.size _).trans hb10); clear ho10 hb10; have ST10 := Lib.hid (ST8.out.next HB10.out); clear x0 x1 xf0 xf1 y0 y1 y2 yf0 yf1 yf2; obtain ⟨x0, x1, xf0, xf1⟩ := ST10.out.1.c2; obtain ⟨p3, c3, hv10, _, _⟩ := RowE.shape encS (OwnE.row encS HO10.out); subst hv10))
          all_goals
            have ST11 := Lib.hid (ST10.out.setS HO10.out)
            clear x0 x1 xf0 xf1 HO10 ST10
            generalize w10.setCell ⟨w.heap.size, 0, none⟩ (.slice p3 S2.length c3) = w11 at *
            obtain ⟨x0, x1, xf0, xf1⟩ := ST11.out.1.c2
            obtain ⟨z0, z1, zf0, zf1⟩ := ST11.out.2.2.1.c2
            go_wp2
            obtain ⟨q1, q2, q3, q4⟩ := ST11.out.ans
            obtain ⟨k0, k1, _, _⟩ := q1.c2
            refine bodyPost_ret (v := .tuple #[.agg #[.slice p3 S2.length c3, .slice p2 V2.length c2], .int .i64 0]) (by simp [results, Try.results61, go_sem, k0, k1]) rfl ?_
            exact ⟨_, _, S2, V2, 0, rfl, .inr (.inr ⟨HRI.out, HFN.out, rfl, V1, HPut.out, .inr ⟨EW.out, i2, HCut2.out, .inl ⟨rfl, HS2.out.symm, HV2.out.symm⟩⟩⟩), q2, q3, q4⟩
end Go.Proofs.Ythipnbiilobjeaa

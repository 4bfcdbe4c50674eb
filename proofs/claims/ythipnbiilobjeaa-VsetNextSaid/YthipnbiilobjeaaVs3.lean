/- Vset: Next, walked. -/
import Derived.Test.YthipnbiilobjeaaVs2
namespace Go.Proofs.Ythipnbiilobjeaa
open Go.RowKit Go.Shelf

theorem encG_ns : ∀ x, ∀ u ∈ encG.cells x, notSlice u := fun x u h => by simp [encG] at h; rcases h with rfl | rfl | rfl | rfl | rfl | rfl | rfl | rfl | rfl <;> trivial
theorem NxSt.put {h : Hd} {hv gv : Value} {w W : World} {S : List ByteArray} {V : List Bal} {p q p2 q2 : Option Addr} {n m c d n2 m2 c2 d2 : Nat} {S2 : List ByteArray} {V2 : List Bal} (a : NxSt h hv gv w (.slice p n c) S (.slice q m d) V W) (hs : RowE encS W (.slice p2 n2 c2) S2) (hvv : RowE encB W (.slice q2 m2 d2) V2) :
    NxSt h hv gv w (.slice p2 n2 c2) S2 (.slice q2 m2 d2) V2 ((W.setCell ⟨w.heap.size, 0, none⟩ (.slice p2 n2 c2)).setCell ⟨w.heap.size, 1, none⟩ (.slice q2 m2 d2)) := by
  have r1 : RowAt (W.setCell ⟨w.heap.size, 0, none⟩ (.slice p2 n2 c2)) w.heap.size #[.slice p2 n2 c2, .slice q m d] 45 := a.1.set 0 _ rfl
  exact ⟨r1.set 1 _ rfl, (a.2.1.other _ _ (by simp)).other _ _ (by simp), (a.2.2.1.other _ _ (by simp)).other _ _ (by simp), RowE.setBox encS_ns (RowE.setBox encS_ns hs a.1 0 _) r1 1 _, RowE.setBox encB_ns (RowE.setBox encB_ns hvv a.1 0 _) r1 1 _,
    ⟨RowE.setBox encS_ns (RowE.setBox encS_ns a.2.2.2.2.2.1.1 a.1 0 _) r1 1 _, RowE.setBox encG_ns (RowE.setBox encG_ns a.2.2.2.2.2.1.2.1 a.1 0 _) r1 1 _, a.2.2.2.2.2.1.2.2⟩,
    (a.2.2.2.2.2.2.setCell (p := ⟨w.heap.size, 0, none⟩) (Nat.le_refl _) _).setCell (p := ⟨w.heap.size, 1, none⟩) (Nat.le_refl _) _⟩

set_option maxRecDepth 100000 in
set_option maxHeartbeats 4000000 in
theorem next_any (sv vv : Value) (S : List ByteArray) (V : List Bal) (h : Hd) (hv gv : Value) (ep : Int) (w : World) (hS : RowE encS w sv S) (hV : RowE encB w vv V) (hh : HdAt w h hv gv) (hl : V.length ≤ 100000) (hl2 : S.length ≤ 100000) (hl3 : h.val.length ≤ 100000) (he : 0 ≤ ep) (ht : 0 ≤ h.ht) :
    Calls Try.prog 30 #[.agg #[sv, vv], hdV h hv gv, .int .u64 ep] w (SnapPost (nextF S V h ep) (S.length + 1) (V.length + 1) w) := by
  have KR := Lib.hid (fun W a b => right_any sv vv S V W a b (by omega) (by omega))
  have KH := Lib.hid (fun W a => hRight_any h hv gv W a (by omega))
  have KE := Lib.hid (fun W a b => equal_any hv sv h.val S W a b)
  have KA := Lib.hid (fun W vv a => has_any sv vv S h.pr W a)
  obtain ⟨pS, cS, rfl, _, _⟩ := RowE.shape encS hS
  obtain ⟨pV, cV, rfl, _, _⟩ := RowE.shape encB hV
  obtain ⟨pH, cH, rfl, _, _⟩ := RowE.shape encS hh.1
  obtain ⟨pG, cG, rfl, _, _⟩ := RowE.shape encG hh.2.1
  have R3 := ((RowAt.new w #[.slice pS S.length cS, .slice pV V.length cV] 45).alloc (.cells (hdc h (.slice pH h.val.length cH) (.slice pG h.se.length cG)) 36)).alloc (.cells #[.slice none 0 0, .slice none 0 0] 45)
  have R4 := (RowAt.new' (w.alloc (.cells #[.slice pS S.length cS, .slice pV V.length cV] 45)) (hdc h (.slice pH h.val.length cH) (.slice pG h.se.length cG)) 36 (k := w.heap.size + 1) (by simp)).alloc (.cells #[.slice none 0 0, .slice none 0 0] 45)
  have R6 := RowAt.new' ((w.alloc (.cells #[.slice pS S.length cS, .slice pV V.length cV] 45)).alloc (.cells (hdc h (.slice pH h.val.length cH) (.slice pG h.se.length cG)) 36)) #[.slice none 0 0, .slice none 0 0] 45 (k := w.heap.size + 2) (by simp)
  have HB0 := (belowA2 w (.cells #[.slice pS S.length cS, .slice pV V.length cV] 45) (.cells (hdc h (.slice pH h.val.length cH) (.slice pG h.se.length cG)) 36)).alloc (by simp; omega) (.cells #[.slice none 0 0, .slice none 0 0] 45)
  have N0 : Hid (NxSt h (.slice pH h.val.length cH) (.slice pG h.se.length cG) w (.slice pS S.length cS) S (.slice pV V.length cV) V _) := Lib.hid ⟨R3, R4, R6, hS.below encS HB0 (Nat.le_refl _), hV.below encB HB0 (Nat.le_refl _), hh.below HB0, HB0⟩
  clear R3 R4 R6 HB0 hS hV hh
  have HNF := Lib.hid (rfl : nextF S V h ep = nextF S V h ep)
  go_enter Try.func30, Try.ntmps30
  go_upto_region 1 with (fail)
  generalize ((w.alloc (.cells #[.slice pS S.length cS, .slice pV V.length cV] 45)).alloc (.cells (hdc h (.slice pH h.val.length cH) (.slice pG h.se.length cG)) 36)).alloc (.cells #[.slice none 0 0, .slice none 0 0] 45) = W at *
  -- WALK
  obtain ⟨x0, x1, xf0, xf1⟩ := N0.out.1.c2
  obtain ⟨y0, y1, y2, y3, y4, y5, y6, y7, y8, y9, y10⟩ := N0.out.2.1.c11
  obtain ⟨z0, z1, zf0, zf1⟩ := N0.out.2.2.1.c2
  by_cases g1 : RightOk S V
  · rw [rightL_true g1] at KR
    by_cases g2 : HdOk h
    · rw [hdL_true g2] at KH
      by_cases g3 : ep = 0
      · have HC : Hid (nextF S V h ep = ([], [], 1)) := Lib.hid (by unfold nextF; rw [if_neg (fun hh => hh.2.2 g3)])
        clear g1 g2
        subst g3
        go_wp2_with (first | (go_at_call 57; refine (KR.out _ N0.out.2.2.2.1 N0.out.2.2.2.2.1).mono ?_; rintro e w1 ⟨rfl, hb⟩; replace N0 := Lib.hid (N0.out.next hb); clear hb; clear x0 x1 xf0 xf1 y0 y1 y2 y3 y4 y5 y6 y7 y8 y9 y10 z0 z1 zf0 zf1; obtain ⟨x0, x1, xf0, xf1⟩ := N0.out.1.c2; obtain ⟨y0, y1, y2, y3, y4, y5, y6, y7, y8, y9, y10⟩ := N0.out.2.1.c11; obtain ⟨z0, z1, zf0, zf1⟩ := N0.out.2.2.1.c2) | (go_at_call 23; refine (KH.out _ N0.out.2.2.2.2.2.1).mono ?_; rintro e w1 ⟨rfl, hb⟩; replace N0 := Lib.hid (N0.out.next hb); clear hb; clear x0 x1 xf0 xf1 y0 y1 y2 y3 y4 y5 y6 y7 y8 y9 y10 z0 z1 zf0 zf1; obtain ⟨x0, x1, xf0, xf1⟩ := N0.out.1.c2; obtain ⟨y0, y1, y2, y3, y4, y5, y6, y7, y8, y9, y10⟩ := N0.out.2.1.c11; obtain ⟨z0, z1, zf0, zf1⟩ := N0.out.2.2.1.c2) | (go_at_call 58; refine (KE.out _ N0.out.2.2.2.2.2.1.1 N0.out.2.2.2.1).mono ?_; rintro e w1 ⟨rfl, hb⟩; replace N0 := Lib.hid (N0.out.next hb); clear hb; clear x0 x1 xf0 xf1 y0 y1 y2 y3 y4 y5 y6 y7 y8 y9 y10 z0 z1 zf0 zf1; obtain ⟨x0, x1, xf0, xf1⟩ := N0.out.1.c2; obtain ⟨y0, y1, y2, y3, y4, y5, y6, y7, y8, y9, y10⟩ := N0.out.2.1.c11; obtain ⟨z0, z1, zf0, zf1⟩ := N0.out.2.2.1.c2) | (go_at_call 59; refine (KA.out _ _ N0.out.2.2.2.1).mono ?_; rintro e w1 ⟨rfl, hb⟩; replace N0 := Lib.hid (N0.out.next hb); clear hb; clear x0 x1 xf0 xf1 y0 y1 y2 y3 y4 y5 y6 y7 y8 y9 y10 z0 z1 zf0 zf1; obtain ⟨x0, x1, xf0, xf1⟩ := N0.out.1.c2; obtain ⟨y0, y1, y2, y3, y4, y5, y6, y7, y8, y9, y10⟩ := N0.out.2.1.c11; obtain ⟨z0, z1, zf0, zf1⟩ := N0.out.2.2.1.c2))
        obtain ⟨r1, r2, r3, r4⟩ := N0.out.ans (p2 := none) (n2 := 0) (c2 := 0) (q2 := none) (m2 := 0) (d2 := 0) (S2 := []) (V2 := []) (.inl ⟨rfl, rfl⟩) (.inl ⟨rfl, rfl⟩)
        obtain ⟨k0, k1, _, _⟩ := r1.c2
        refine bodyPost_ret (v := .tuple #[.agg #[.slice none 0 0, .slice none 0 0], .int .i64 1]) (by simp [results, Try.results30, go_sem, k0, k1]) rfl ?_
        rw [HC.out]
        exact ⟨none, 0, none, 0, rfl, r2, r3, r4, Nat.zero_le _, Nat.zero_le _⟩
      · by_cases g4 : h.val = S
        · rw [eqL_true g4] at KE
          by_cases g5 : h.pr ∈ S
          · rw [hasL_true g5] at KA
            have HC : Hid (nextF S V h ep = if h.vo = ⟨#[]⟩ then (S, (if h.ht % ep = 0 then [] else V), 0) else castF S (if h.ht % ep = 0 then [] else V) (h.pr, h.vo, h.ad)) := Lib.hid (by unfold nextF; rw [if_pos ⟨g1, g2, g3⟩, if_pos g4, if_pos g5])
            have G1 := Lib.hid g1
            clear g1 g2 g4 g5
            clear HNF
            go_upto_region 8 with (first | (go_at_call 57; refine (KR.out _ N0.out.2.2.2.1 N0.out.2.2.2.2.1).mono ?_; rintro e w1 ⟨rfl, hb⟩; replace N0 := Lib.hid (N0.out.next hb); clear hb; clear x0 x1 xf0 xf1 y0 y1 y2 y3 y4 y5 y6 y7 y8 y9 y10 z0 z1 zf0 zf1; obtain ⟨x0, x1, xf0, xf1⟩ := N0.out.1.c2; obtain ⟨y0, y1, y2, y3, y4, y5, y6, y7, y8, y9, y10⟩ := N0.out.2.1.c11; obtain ⟨z0, z1, zf0, zf1⟩ := N0.out.2.2.1.c2) | (go_at_call 23; refine (KH.out _ N0.out.2.2.2.2.2.1).mono ?_; rintro e w1 ⟨rfl, hb⟩; replace N0 := Lib.hid (N0.out.next hb); clear hb; clear x0 x1 xf0 xf1 y0 y1 y2 y3 y4 y5 y6 y7 y8 y9 y10 z0 z1 zf0 zf1; obtain ⟨x0, x1, xf0, xf1⟩ := N0.out.1.c2; obtain ⟨y0, y1, y2, y3, y4, y5, y6, y7, y8, y9, y10⟩ := N0.out.2.1.c11; obtain ⟨z0, z1, zf0, zf1⟩ := N0.out.2.2.1.c2) | (go_at_call 58; refine (KE.out _ N0.out.2.2.2.2.2.1.1 N0.out.2.2.2.1).mono ?_; rintro e w1 ⟨rfl, hb⟩; replace N0 := Lib.hid (N0.out.next hb); clear hb; clear x0 x1 xf0 xf1 y0 y1 y2 y3 y4 y5 y6 y7 y8 y9 y10 z0 z1 zf0 zf1; obtain ⟨x0, x1, xf0, xf1⟩ := N0.out.1.c2; obtain ⟨y0, y1, y2, y3, y4, y5, y6, y7, y8, y9, y10⟩ := N0.out.2.1.c11; obtain ⟨z0, z1, zf0, zf1⟩ := N0.out.2.2.1.c2) | (go_at_call 59; refine (KA.out _ _ N0.out.2.2.2.1).mono ?_; rintro e w1 ⟨rfl, hb⟩; replace N0 := Lib.hid (N0.out.next hb); clear hb; clear x0 x1 xf0 xf1 y0 y1 y2 y3 y4 y5 y6 y7 y8 y9 y10 z0 z1 zf0 zf1; obtain ⟨x0, x1, xf0, xf1⟩ := N0.out.1.c2; obtain ⟨y0, y1, y2, y3, y4, y5, y6, y7, y8, y9, y10⟩ := N0.out.2.1.c11; obtain ⟨z0, z1, zf0, zf1⟩ := N0.out.2.2.1.c2))
            go_upto_if 42 with (fail)
            clear x0 x1 xf0 xf1 y0 y1 y2 y3 y4 y5 y6 y7 y8 y9 y10 z0 z1 zf0 zf1
            clear KR KH KE KA
            have hV1 : (if h.ht % ep = 0 then ([] : List Bal) else V).length ≤ V.length := by split <;> simp
            have hVV : ∀ V1 : List Bal, V1 = (if h.ht % ep = 0 then [] else V) → (h.ht % ep = 0 → V1 = []) ∧ (¬ h.ht % ep = 0 → V1 = V) := fun V1 e => ⟨fun g => by rw [e, if_pos g], fun g => by rw [e, if_neg g]⟩
            generalize hV1d : (if h.ht % ep = 0 then ([] : List Bal) else V) = V1 at *
            have HVV := Lib.hid (hVV V1 rfl)
            clear hVV hV1d
            go_cut [8] (fun s8 wr => s8 = .int .i64 0 ∧ ∃ q1 d1, NxSt h (.slice pH h.val.length cH) (.slice pG h.se.length cG) w (.slice pS S.length cS) S (.slice q1 V1.length d1) V1 wr)
            case first =>
              by_cases gm : h.ht % ep = 0
              · have q : (h.ht % ep == 0) = true := by simp [gm]
                have e1 := HVV.out.1 gm
                subst e1
                clear gm
                have KC := close_any _ _ S V w1 N0.out.2.2.2.1 N0.out.2.2.2.2.1 (by omega) (by omega)
                rw [rightL_true G1.out, if_pos rfl] at KC
                have KC := Lib.hid KC
                obtain ⟨x0, x1, xf0, xf1⟩ := N0.out.1.c2; obtain ⟨y0, y1, y2, y3, y4, y5, y6, y7, y8, y9, y10⟩ := N0.out.2.1.c11; obtain ⟨z0, z1, zf0, zf1⟩ := N0.out.2.2.1.c2
                go_wp2_with (go_at_call 60; refine KC.out.mono ?_; rintro e w2 ⟨rfl, hb⟩; replace N0 := Lib.hid (N0.out.next hb); clear hb; clear x0 x1 xf0 xf1 y0 y1 y2 y3 y4 y5 y6 y7 y8 y9 y10 z0 z1 zf0 zf1; obtain ⟨x0, x1, xf0, xf1⟩ := N0.out.1.c2; obtain ⟨y0, y1, y2, y3, y4, y5, y6, y7, y8, y9, y10⟩ := N0.out.2.1.c11; obtain ⟨z0, z1, zf0, zf1⟩ := N0.out.2.2.1.c2)
                go_meet
                case rel => exact ⟨rfl, none, 0, N0.out.put N0.out.2.2.2.1 (.inl ⟨rfl, rfl⟩)⟩
              · have q : (h.ht % ep == 0) = false := by simp [gm]
                have e1 := HVV.out.2 gm
                subst e1
                clear gm
                go_wp2
                go_meet
                case rel => exact ⟨rfl, pV, cV, N0.out⟩
            case rest =>
              obtain ⟨rfl, q1, d1, n1⟩ := hcut
              have N1 := Lib.hid n1
              clear n1 N0 HVV
              obtain ⟨x0, x1, xf0, xf1⟩ := N1.out.1.c2
              obtain ⟨y0, y1, y2, y3, y4, y5, y6, y7, y8, y9, y10⟩ := N1.out.2.1.c11
              obtain ⟨z0, z1, zf0, zf1⟩ := N1.out.2.2.1.c2
              by_cases gv : h.vo = ⟨#[]⟩
              · have q6 : h.vo.toList = [] := by simpa using seq_true gv
                have q7 : h.vo.toList.isEmpty = true := by simpa using q6
                have HC2 := HC.out
                rw [if_pos gv] at HC2
                clear gv HC
                have HC2 := Lib.hid HC2
                go_wp2
                obtain ⟨r1, r2, r3, r4⟩ := N1.out.ans N1.out.2.2.2.1 N1.out.2.2.2.2.1
                obtain ⟨k0, k1, _, _⟩ := r1.c2
                refine bodyPost_ret (v := .tuple #[.agg #[.slice pS S.length cS, .slice q1 V1.length d1], .int .i64 0]) (by simp [results, Try.results30, go_sem, k0, k1]) rfl ?_
                rw [HC2.out]
                exact ⟨pS, cS, q1, d1, rfl, r2, r3, r4, Nat.le_succ _, Nat.le_succ_of_le hV1⟩
              · have q6 : ¬ h.vo.toList = [] := by simpa using seq_false gv
                have q7 : h.vo.toList.isEmpty = false := by simpa using q6
                have HC2 := HC.out
                rw [if_neg gv] at HC2
                clear gv HC
                have HC2 := Lib.hid HC2
                have KC := Lib.hid (cast_any (.slice pS S.length cS) (.slice q1 V1.length d1) S V1 (h.pr, h.vo, h.ad) wc N1.out.2.2.2.1 N1.out.2.2.2.2.1 (by omega) (by omega))
                go_upto_region 14 with (fail)
                refine KC.out.mono ?_
                intro e w6 hp
                obtain ⟨pX, cX, qX, dX, X, VX, cx, rfl, CX, HX, HVX, hb⟩ := hp.parts2
                have N2 := Lib.hid (N1.out.next hb)
                clear x0 x1 xf0 xf1 y0 y1 y2 y3 y4 y5 y6 y7 y8 y9 y10 z0 z1 zf0 zf1 hp hb KC
                obtain ⟨x0, x1, xf0, xf1⟩ := N2.out.1.c2
                go_upto_region 14 with (fail)
                have N3 := Lib.hid (N2.out.put HX.out HVX.out)
                clear x0 x1 xf0 xf1
                generalize (w6.setCell ⟨w.heap.size, 0, none⟩ (.slice pX X.length cX)).setCell ⟨w.heap.size, 1, none⟩ (.slice qX VX.length dX) = w7 at *
                obtain ⟨x0, x1, xf0, xf1⟩ := N3.out.1.c2
                obtain ⟨z0, z1, zf0, zf1⟩ := N3.out.2.2.1.c2
                go_wp2
                obtain ⟨r1, r2, r3, r4⟩ := N3.out.ans N3.out.2.2.2.1 N3.out.2.2.2.2.1
                obtain ⟨k0, k1, _, _⟩ := r1.c2
                refine bodyPost_ret (v := .tuple #[.agg #[.slice pX X.length cX, .slice qX VX.length dX], .int .i64 cx]) (by simp [results, Try.results30, go_sem, k0, k1]) rfl ?_
                rw [HC2.out, ← castF_eq CX.out]
                have hlen : X.length ≤ S.length + 1 ∧ VX.length ≤ V1.length + 1 := by
                  rcases CX.out.cases with ⟨_, rfl, rfl, _⟩ | ⟨_, _, rfl, rfl, _⟩ | ⟨_, ht⟩
                  · simp
                  · simp
                  · exact ⟨(taken_keeps ht).2.1, taken_len ht⟩
                exact ⟨pX, cX, qX, dX, rfl, r2, r3, r4, hlen.1, Nat.le_trans hlen.2 (Nat.succ_le_succ hV1)⟩
          · rw [hasL_false g5] at KA
            have HC : Hid (nextF S V h ep = ([], [], 42)) := Lib.hid (by unfold nextF; rw [if_pos ⟨g1, g2, g3⟩, if_pos g4, if_neg g5])
            clear g1 g2 g4 g5
            go_wp2_with (first | (go_at_call 57; refine (KR.out _ N0.out.2.2.2.1 N0.out.2.2.2.2.1).mono ?_; rintro e w1 ⟨rfl, hb⟩; replace N0 := Lib.hid (N0.out.next hb); clear hb; clear x0 x1 xf0 xf1 y0 y1 y2 y3 y4 y5 y6 y7 y8 y9 y10 z0 z1 zf0 zf1; obtain ⟨x0, x1, xf0, xf1⟩ := N0.out.1.c2; obtain ⟨y0, y1, y2, y3, y4, y5, y6, y7, y8, y9, y10⟩ := N0.out.2.1.c11; obtain ⟨z0, z1, zf0, zf1⟩ := N0.out.2.2.1.c2) | (go_at_call 23; refine (KH.out _ N0.out.2.2.2.2.2.1).mono ?_; rintro e w1 ⟨rfl, hb⟩; replace N0 := Lib.hid (N0.out.next hb); clear hb; clear x0 x1 xf0 xf1 y0 y1 y2 y3 y4 y5 y6 y7 y8 y9 y10 z0 z1 zf0 zf1; obtain ⟨x0, x1, xf0, xf1⟩ := N0.out.1.c2; obtain ⟨y0, y1, y2, y3, y4, y5, y6, y7, y8, y9, y10⟩ := N0.out.2.1.c11; obtain ⟨z0, z1, zf0, zf1⟩ := N0.out.2.2.1.c2) | (go_at_call 58; refine (KE.out _ N0.out.2.2.2.2.2.1.1 N0.out.2.2.2.1).mono ?_; rintro e w1 ⟨rfl, hb⟩; replace N0 := Lib.hid (N0.out.next hb); clear hb; clear x0 x1 xf0 xf1 y0 y1 y2 y3 y4 y5 y6 y7 y8 y9 y10 z0 z1 zf0 zf1; obtain ⟨x0, x1, xf0, xf1⟩ := N0.out.1.c2; obtain ⟨y0, y1, y2, y3, y4, y5, y6, y7, y8, y9, y10⟩ := N0.out.2.1.c11; obtain ⟨z0, z1, zf0, zf1⟩ := N0.out.2.2.1.c2) | (go_at_call 59; refine (KA.out _ _ N0.out.2.2.2.1).mono ?_; rintro e w1 ⟨rfl, hb⟩; replace N0 := Lib.hid (N0.out.next hb); clear hb; clear x0 x1 xf0 xf1 y0 y1 y2 y3 y4 y5 y6 y7 y8 y9 y10 z0 z1 zf0 zf1; obtain ⟨x0, x1, xf0, xf1⟩ := N0.out.1.c2; obtain ⟨y0, y1, y2, y3, y4, y5, y6, y7, y8, y9, y10⟩ := N0.out.2.1.c11; obtain ⟨z0, z1, zf0, zf1⟩ := N0.out.2.2.1.c2))
            obtain ⟨r1, r2, r3, r4⟩ := N0.out.ans (p2 := none) (n2 := 0) (c2 := 0) (q2 := none) (m2 := 0) (d2 := 0) (S2 := []) (V2 := []) (.inl ⟨rfl, rfl⟩) (.inl ⟨rfl, rfl⟩)
            obtain ⟨k0, k1, _, _⟩ := r1.c2
            refine bodyPost_ret (v := .tuple #[.agg #[.slice none 0 0, .slice none 0 0], .int .i64 42]) (by simp [results, Try.results30, go_sem, k0, k1]) rfl ?_
            rw [HC.out]
            exact ⟨none, 0, none, 0, rfl, r2, r3, r4, Nat.zero_le _, Nat.zero_le _⟩
        · rw [eqL_false g4] at KE
          have HC : Hid (nextF S V h ep = ([], [], 43)) := Lib.hid (by unfold nextF; rw [if_pos ⟨g1, g2, g3⟩, if_neg g4])
          clear g1 g2 g4
          go_wp2_with (first | (go_at_call 57; refine (KR.out _ N0.out.2.2.2.1 N0.out.2.2.2.2.1).mono ?_; rintro e w1 ⟨rfl, hb⟩; replace N0 := Lib.hid (N0.out.next hb); clear hb; clear x0 x1 xf0 xf1 y0 y1 y2 y3 y4 y5 y6 y7 y8 y9 y10 z0 z1 zf0 zf1; obtain ⟨x0, x1, xf0, xf1⟩ := N0.out.1.c2; obtain ⟨y0, y1, y2, y3, y4, y5, y6, y7, y8, y9, y10⟩ := N0.out.2.1.c11; obtain ⟨z0, z1, zf0, zf1⟩ := N0.out.2.2.1.c2) | (go_at_call 23; refine (KH.out _ N0.out.2.2.2.2.2.1).mono ?_; rintro e w1 ⟨rfl, hb⟩; replace N0 := Lib.hid (N0.out.next hb); clear hb; clear x0 x1 xf0 xf1 y0 y1 y2 y3 y4 y5 y6 y7 y8 y9 y10 z0 z1 zf0 zf1; obtain ⟨x0, x1, xf0, xf1⟩ := N0.out.1.c2; obtain ⟨y0, y1, y2, y3, y4, y5, y6, y7, y8, y9, y10⟩ := N0.out.2.1.c11; obtain ⟨z0, z1, zf0, zf1⟩ := N0.out.2.2.1.c2) | (go_at_call 58; refine (KE.out _ N0.out.2.2.2.2.2.1.1 N0.out.2.2.2.1).mono ?_; rintro e w1 ⟨rfl, hb⟩; replace N0 := Lib.hid (N0.out.next hb); clear hb; clear x0 x1 xf0 xf1 y0 y1 y2 y3 y4 y5 y6 y7 y8 y9 y10 z0 z1 zf0 zf1; obtain ⟨x0, x1, xf0, xf1⟩ := N0.out.1.c2; obtain ⟨y0, y1, y2, y3, y4, y5, y6, y7, y8, y9, y10⟩ := N0.out.2.1.c11; obtain ⟨z0, z1, zf0, zf1⟩ := N0.out.2.2.1.c2) | (go_at_call 59; refine (KA.out _ _ N0.out.2.2.2.1).mono ?_; rintro e w1 ⟨rfl, hb⟩; replace N0 := Lib.hid (N0.out.next hb); clear hb; clear x0 x1 xf0 xf1 y0 y1 y2 y3 y4 y5 y6 y7 y8 y9 y10 z0 z1 zf0 zf1; obtain ⟨x0, x1, xf0, xf1⟩ := N0.out.1.c2; obtain ⟨y0, y1, y2, y3, y4, y5, y6, y7, y8, y9, y10⟩ := N0.out.2.1.c11; obtain ⟨z0, z1, zf0, zf1⟩ := N0.out.2.2.1.c2))
          obtain ⟨r1, r2, r3, r4⟩ := N0.out.ans (p2 := none) (n2 := 0) (c2 := 0) (q2 := none) (m2 := 0) (d2 := 0) (S2 := []) (V2 := []) (.inl ⟨rfl, rfl⟩) (.inl ⟨rfl, rfl⟩)
          obtain ⟨k0, k1, _, _⟩ := r1.c2
          refine bodyPost_ret (v := .tuple #[.agg #[.slice none 0 0, .slice none 0 0], .int .i64 43]) (by simp [results, Try.results30, go_sem, k0, k1]) rfl ?_
          rw [HC.out]
          exact ⟨none, 0, none, 0, rfl, r2, r3, r4, Nat.zero_le _, Nat.zero_le _⟩
    · rw [hdL_false g2] at KH
      have HC : Hid (nextF S V h ep = ([], [], 1)) := Lib.hid (by unfold nextF; rw [if_neg (fun hh => g2 hh.2.1)])
      clear g1 g2
      go_wp2_with (first | (go_at_call 57; refine (KR.out _ N0.out.2.2.2.1 N0.out.2.2.2.2.1).mono ?_; rintro e w1 ⟨rfl, hb⟩; replace N0 := Lib.hid (N0.out.next hb); clear hb; clear x0 x1 xf0 xf1 y0 y1 y2 y3 y4 y5 y6 y7 y8 y9 y10 z0 z1 zf0 zf1; obtain ⟨x0, x1, xf0, xf1⟩ := N0.out.1.c2; obtain ⟨y0, y1, y2, y3, y4, y5, y6, y7, y8, y9, y10⟩ := N0.out.2.1.c11; obtain ⟨z0, z1, zf0, zf1⟩ := N0.out.2.2.1.c2) | (go_at_call 23; refine (KH.out _ N0.out.2.2.2.2.2.1).mono ?_; rintro e w1 ⟨rfl, hb⟩; replace N0 := Lib.hid (N0.out.next hb); clear hb; clear x0 x1 xf0 xf1 y0 y1 y2 y3 y4 y5 y6 y7 y8 y9 y10 z0 z1 zf0 zf1; obtain ⟨x0, x1, xf0, xf1⟩ := N0.out.1.c2; obtain ⟨y0, y1, y2, y3, y4, y5, y6, y7, y8, y9, y10⟩ := N0.out.2.1.c11; obtain ⟨z0, z1, zf0, zf1⟩ := N0.out.2.2.1.c2) | (go_at_call 58; refine (KE.out _ N0.out.2.2.2.2.2.1.1 N0.out.2.2.2.1).mono ?_; rintro e w1 ⟨rfl, hb⟩; replace N0 := Lib.hid (N0.out.next hb); clear hb; clear x0 x1 xf0 xf1 y0 y1 y2 y3 y4 y5 y6 y7 y8 y9 y10 z0 z1 zf0 zf1; obtain ⟨x0, x1, xf0, xf1⟩ := N0.out.1.c2; obtain ⟨y0, y1, y2, y3, y4, y5, y6, y7, y8, y9, y10⟩ := N0.out.2.1.c11; obtain ⟨z0, z1, zf0, zf1⟩ := N0.out.2.2.1.c2) | (go_at_call 59; refine (KA.out _ _ N0.out.2.2.2.1).mono ?_; rintro e w1 ⟨rfl, hb⟩; replace N0 := Lib.hid (N0.out.next hb); clear hb; clear x0 x1 xf0 xf1 y0 y1 y2 y3 y4 y5 y6 y7 y8 y9 y10 z0 z1 zf0 zf1; obtain ⟨x0, x1, xf0, xf1⟩ := N0.out.1.c2; obtain ⟨y0, y1, y2, y3, y4, y5, y6, y7, y8, y9, y10⟩ := N0.out.2.1.c11; obtain ⟨z0, z1, zf0, zf1⟩ := N0.out.2.2.1.c2))
      obtain ⟨r1, r2, r3, r4⟩ := N0.out.ans (p2 := none) (n2 := 0) (c2 := 0) (q2 := none) (m2 := 0) (d2 := 0) (S2 := []) (V2 := []) (.inl ⟨rfl, rfl⟩) (.inl ⟨rfl, rfl⟩)
      obtain ⟨k0, k1, _, _⟩ := r1.c2
      refine bodyPost_ret (v := .tuple #[.agg #[.slice none 0 0, .slice none 0 0], .int .i64 1]) (by simp [results, Try.results30, go_sem, k0, k1]) rfl ?_
      rw [HC.out]
      exact ⟨none, 0, none, 0, rfl, r2, r3, r4, Nat.zero_le _, Nat.zero_le _⟩
  · rw [rightL_false g1] at KR
    have HC : Hid (nextF S V h ep = ([], [], 1)) := Lib.hid (by unfold nextF; rw [if_neg (fun hh => g1 hh.1)])
    clear g1
    go_wp2_with (first | (go_at_call 57; refine (KR.out _ N0.out.2.2.2.1 N0.out.2.2.2.2.1).mono ?_; rintro e w1 ⟨rfl, hb⟩; replace N0 := Lib.hid (N0.out.next hb); clear hb; clear x0 x1 xf0 xf1 y0 y1 y2 y3 y4 y5 y6 y7 y8 y9 y10 z0 z1 zf0 zf1; obtain ⟨x0, x1, xf0, xf1⟩ := N0.out.1.c2; obtain ⟨y0, y1, y2, y3, y4, y5, y6, y7, y8, y9, y10⟩ := N0.out.2.1.c11; obtain ⟨z0, z1, zf0, zf1⟩ := N0.out.2.2.1.c2) | (go_at_call 23; refine (KH.out _ N0.out.2.2.2.2.2.1).mono ?_; rintro e w1 ⟨rfl, hb⟩; replace N0 := Lib.hid (N0.out.next hb); clear hb; clear x0 x1 xf0 xf1 y0 y1 y2 y3 y4 y5 y6 y7 y8 y9 y10 z0 z1 zf0 zf1; obtain ⟨x0, x1, xf0, xf1⟩ := N0.out.1.c2; obtain ⟨y0, y1, y2, y3, y4, y5, y6, y7, y8, y9, y10⟩ := N0.out.2.1.c11; obtain ⟨z0, z1, zf0, zf1⟩ := N0.out.2.2.1.c2) | (go_at_call 58; refine (KE.out _ N0.out.2.2.2.2.2.1.1 N0.out.2.2.2.1).mono ?_; rintro e w1 ⟨rfl, hb⟩; replace N0 := Lib.hid (N0.out.next hb); clear hb; clear x0 x1 xf0 xf1 y0 y1 y2 y3 y4 y5 y6 y7 y8 y9 y10 z0 z1 zf0 zf1; obtain ⟨x0, x1, xf0, xf1⟩ := N0.out.1.c2; obtain ⟨y0, y1, y2, y3, y4, y5, y6, y7, y8, y9, y10⟩ := N0.out.2.1.c11; obtain ⟨z0, z1, zf0, zf1⟩ := N0.out.2.2.1.c2) | (go_at_call 59; refine (KA.out _ _ N0.out.2.2.2.1).mono ?_; rintro e w1 ⟨rfl, hb⟩; replace N0 := Lib.hid (N0.out.next hb); clear hb; clear x0 x1 xf0 xf1 y0 y1 y2 y3 y4 y5 y6 y7 y8 y9 y10 z0 z1 zf0 zf1; obtain ⟨x0, x1, xf0, xf1⟩ := N0.out.1.c2; obtain ⟨y0, y1, y2, y3, y4, y5, y6, y7, y8, y9, y10⟩ := N0.out.2.1.c11; obtain ⟨z0, z1, zf0, zf1⟩ := N0.out.2.2.1.c2))
    obtain ⟨r1, r2, r3, r4⟩ := N0.out.ans (p2 := none) (n2 := 0) (c2 := 0) (q2 := none) (m2 := 0) (d2 := 0) (S2 := []) (V2 := []) (.inl ⟨rfl, rfl⟩) (.inl ⟨rfl, rfl⟩)
    obtain ⟨k0, k1, _, _⟩ := r1.c2
    refine bodyPost_ret (v := .tuple #[.agg #[.slice none 0 0, .slice none 0 0], .int .i64 1]) (by simp [results, Try.results30, go_sem, k0, k1]) rfl ?_
    rw [HC.out]
    exact ⟨none, 0, none, 0, rfl, r2, r3, r4, Nat.zero_le _, Nat.zero_le _⟩
end Go.Proofs.Ythipnbiilobjeaa

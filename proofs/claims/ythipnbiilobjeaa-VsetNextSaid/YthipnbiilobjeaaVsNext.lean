/- VsetNext: the walk. -/
import Derived.Test.YthipnbiilobjeaaVsParts
import Derived.Test.YthipnbiilobjeaaVs10
namespace Go.Proofs.Ythipnbiilobjeaa
open Go.RowKit Go.Shelf

theorem RowAt.other11 {w : World} {k : Nat} {cs : Array Value} {T : TypeId} (h : RowAt w k cs T) {b : Nat} (hne : k ≠ b) (o : Nat) (v0 v1 v2 v3 v4 v5 v6 v7 v8 v9 v10 : Value) : RowAt (put11 w b o v0 v1 v2 v3 v4 v5 v6 v7 v8 v9 v10) k cs T :=
  ((((((((((h.other ⟨b, o, none⟩ v0 hne).other ⟨b, o + 1, none⟩ v1 hne).other ⟨b, o + 2, none⟩ v2 hne).other ⟨b, o + 3, none⟩ v3 hne).other ⟨b, o + 4, none⟩ v4 hne).other ⟨b, o + 5, none⟩ v5 hne).other ⟨b, o + 6, none⟩ v6 hne).other ⟨b, o + 7, none⟩ v7 hne).other ⟨b, o + 8, none⟩ v8 hne).other ⟨b, o + 9, none⟩ v9 hne).other ⟨b, o + 10, none⟩ v10 hne

set_option maxRecDepth 100000 in
set_option maxHeartbeats 8000000 in
theorem vsetNext_walk (w : World) (v : Value) (s0 : List ByteArray × List Bal) (hs : SnapRep w v s0) (vh : Value) (x0 : HS) (hh : HdrRep w vh x0) (ep : Int) (wep : (Lit.int .u64 ep).wf = true) (vl : Value) (l : List HS) (hl : HdrsRep w vl l) :
    Calls Try.prog 7 #[v, vh, .int .u64 ep, vl] w fun e w' => e = .returned (.bool true) ∧ Below w.heap.size w w' := by
  obtain ⟨S0, V0⟩ := s0
  obtain ⟨sv, vv, rfl, hS0, hV0⟩ := hs
  obtain ⟨pS, cS, rfl, s1, s2⟩ := RowE.shape encS hS0
  obtain ⟨pV, cV, rfl, s5, s6⟩ := RowE.shape encB hV0
  obtain ⟨pl, cl, rfl, s3, s4⟩ := RowE.shape encH hl.1
  obtain ⟨m1, h1, h2, h3⟩ := minIs_ex 20 (by omega) S0.length
  obtain ⟨m2, i1, i2, i3⟩ := minIs_ex 60 (by omega) V0.length
  obtain ⟨n, j1, j2, j3⟩ := minIs_ex 20 (by omega) l.length
  have hS : RowE encS w (.slice pS m1 cS) (S0.take m1) := RowE.take encS hS0 h2
  have hm1 : (S0.take m1).length = m1 := by simp; omega
  have hV : RowE encB w (.slice pV m2 cV) (V0.take m2) := RowE.take encB hV0 i2
  have hm2 : (V0.take m2).length = m2 := by simp; omega
  have hL : RowE encH w (.slice pl n cl) (l.take n) := RowE.take encH hl.1 j2
  have hn : (l.take n).length = n := by simp; omega
  have hraw : ∀ x ∈ l.take n, HRaw w x := fun x hx => hl.2 x (List.mem_of_mem_take hx)
  simp only at s1 s5
  generalize S0.take m1 = S at hS hm1
  generalize V0.take m2 = V at hV hm2
  generalize l.take n = L at hL hn hraw
  obtain ⟨rfl, hxr⟩ := hh
  have bep := bounds_u64 wep
  have HRA := Lib.hid hraw
  have HSr := Lib.hid (show RS w _ S from hS)
  have HVr := Lib.hid (show RB w _ V from hV)
  have HL := Lib.hid hL
  have HYOK := hxr.few
  have KF := fun W => hxr.call W
  generalize fewH x0 = y0 at *
  subst hm1 hm2 hn
  clear hl hS hS0 hV hV0 hraw hL wep hxr
  unfold maxLen at s2 s4 s6
  obtain ⟨x0, ⟨pv, cv⟩, ⟨pg, cg⟩⟩ := x0
  obtain ⟨pa, ht, ro, tx, pr, va, val, vo, ad, rd, se⟩ := x0
  obtain ⟨y0, ⟨qv, dv⟩, ⟨qg, dg⟩⟩ := y0
  obtain ⟨pa', ht', ro', tx', pr', va', val', vo', ad', rd', se'⟩ := y0
  replace KF : ∀ W, Calls Try.prog 29 #[.agg #[.string pa, .int .u64 ht, .string ro, .string tx, .string pr, .string va, .slice pv val.length cv, .string vo, .bool ad, .int .u64 rd, .slice pg se.length cg]] W fun e w' => e = .returned (.agg #[.string pa', .int .u64 ht', .string ro', .string tx', .string pr', .string va', .slice qv val'.length dv, .string vo', .bool ad', .int .u64 rd', .slice qg se'.length dg]) ∧ Below W.heap.size W w' := KF
  have KF0 := Lib.hid KF
  have HYO := Lib.hid HYOK
  clear KF HYOK
  have R4 := Lib.hid ((RowAt.new w #[.slice pS S0.length cS, .slice pV V0.length cV] 45).alloc (.cells #[.string pa, .int .u64 ht, .string ro, .string tx, .string pr, .string va, .slice pv val.length cv, .string vo, .bool ad, .int .u64 rd, .slice pg se.length cg] 36))
  have R5 := Lib.hid (RowAt.new' (w.alloc (.cells #[.slice pS S0.length cS, .slice pV V0.length cV] 45)) #[.string pa, .int .u64 ht, .string ro, .string tx, .string pr, .string va, .slice pv val.length cv, .string vo, .bool ad, .int .u64 rd, .slice pg se.length cg] 36 (k := w.heap.size + 1) (by simp))
  have HB := Lib.hid (belowA2 w (.cells #[.slice pS S0.length cS, .slice pV V0.length cV] 45) (.cells #[.string pa, .int .u64 ht, .string ro, .string tx, .string pr, .string va, .slice pv val.length cv, .string vo, .bool ad, .int .u64 rd, .slice pg se.length cg] 36))
  go_enter Try.func7, Try.ntmps7
  go_upto_region 1 with (fail)
  generalize (w.alloc (.cells #[.slice pS S0.length cS, .slice pV V0.length cV] 45)).alloc (.cells #[.string pa, .int .u64 ht, .string ro, .string tx, .string pr, .string va, .slice pv val.length cv, .string vo, .bool ad, .int .u64 rd, .slice pg se.length cg] 36) = W0 at *
  obtain ⟨x0, x1, xf0, xf1⟩ := R4.out.c2
  go_region
  clear x0 x1 xf0 xf1
  have R4' := Lib.hid (show RowAt (((W0.setCell ⟨w.heap.size, 0, none⟩ (.slice pS S.length cS)).setCell ⟨w.heap.size, 1, none⟩ (.slice pV V.length cV)).drew) w.heap.size #[.slice pS S.length cS, .slice pV V.length cV] 45 from ((R4.out.set 0 (.slice pS S.length cS) rfl).set 1 (.slice pV V.length cV) rfl).drew)
  have R5' := Lib.hid (show RowAt (((W0.setCell ⟨w.heap.size, 0, none⟩ (.slice pS S.length cS)).setCell ⟨w.heap.size, 1, none⟩ (.slice pV V.length cV)).drew) (w.heap.size + 1) #[.string pa, .int .u64 ht, .string ro, .string tx, .string pr, .string va, .slice pv val.length cv, .string vo, .bool ad, .int .u64 rd, .slice pg se.length cg] 36 from ((R5.out.other ⟨w.heap.size, 0, none⟩ (.slice pS S.length cS) (by simp)).other ⟨w.heap.size, 1, none⟩ (.slice pV V.length cV) (by simp)).drew)
  have HB' := Lib.hid (show Below w.heap.size w (((W0.setCell ⟨w.heap.size, 0, none⟩ (.slice pS S.length cS)).setCell ⟨w.heap.size, 1, none⟩ (.slice pV V.length cV)).drew) from ((HB.out.setCell (p := ⟨w.heap.size, 0, none⟩) (Nat.le_refl _) (.slice pS S.length cS)).setCell (p := ⟨w.heap.size, 1, none⟩) (Nat.le_refl _) (.slice pV V.length cV)).drew)
  clear R4 R5 HB h1 h2 i1 i2
  generalize ((W0.setCell ⟨w.heap.size, 0, none⟩ (.slice pS S.length cS)).setCell ⟨w.heap.size, 1, none⟩ (.slice pV V.length cV)).drew = W1 at *
  obtain ⟨x0, x1, x2, x3, x4, x5, x6, x7, x8, x9, x10⟩ := R5'.out.c11
  go_upto_region 3 with (go_at_call 29; refine (KF0.out _).mono ?_; rintro e W1' ⟨rfl, hb⟩; (replace R4' := Lib.hid (R4'.out.belowS hb); replace R5' := Lib.hid (R5'.out.belowS hb); replace HB' := Lib.hid (HB'.out.trans (hb.mono HB'.out.size)); clear hb); clear x0 x1 x2 x3 x4 x5 x6 x7 x8 x9 x10; obtain ⟨x0, x1, x2, x3, x4, x5, x6, x7, x8, x9, x10⟩ := R5'.out.c11; obtain ⟨f0, f1, f2, f3, f4, f5, f6, f7, f8, f9, f10⟩ := R5'.out.f11)
  clear x0 x1 x2 x3 x4 x5 x6 x7 x8 x9 x10 f0 f1 f2 f3 f4 f5 f6 f7 f8 f9 f10 KF0
  have R4 : Hid (RowAt (((((((((((W1'.setCell ⟨w.heap.size + 1, 0, none⟩ (.string pa')).setCell ⟨w.heap.size + 1, 1, none⟩ (.int .u64 ht')).setCell ⟨w.heap.size + 1, 2, none⟩ (.string ro')).setCell ⟨w.heap.size + 1, 3, none⟩ (.string tx')).setCell ⟨w.heap.size + 1, 4, none⟩ (.string pr')).setCell ⟨w.heap.size + 1, 5, none⟩ (.string va')).setCell ⟨w.heap.size + 1, 6, none⟩ (.slice qv val'.length dv)).setCell ⟨w.heap.size + 1, 7, none⟩ (.string vo')).setCell ⟨w.heap.size + 1, 8, none⟩ (.bool ad')).setCell ⟨w.heap.size + 1, 9, none⟩ (.int .u64 rd')).setCell ⟨w.heap.size + 1, 10, none⟩ (.slice qg se'.length dg)) w.heap.size #[.slice pS S.length cS, .slice pV V.length cV] 45) := Lib.hid (R4'.out.other11 (b := w.heap.size + 1) (by omega) 0 (.string pa') (.int .u64 ht') (.string ro') (.string tx') (.string pr') (.string va') (.slice qv val'.length dv) (.string vo') (.bool ad') (.int .u64 rd') (.slice qg se'.length dg))
  have R5 : Hid (RowAt (((((((((((W1'.setCell ⟨w.heap.size + 1, 0, none⟩ (.string pa')).setCell ⟨w.heap.size + 1, 1, none⟩ (.int .u64 ht')).setCell ⟨w.heap.size + 1, 2, none⟩ (.string ro')).setCell ⟨w.heap.size + 1, 3, none⟩ (.string tx')).setCell ⟨w.heap.size + 1, 4, none⟩ (.string pr')).setCell ⟨w.heap.size + 1, 5, none⟩ (.string va')).setCell ⟨w.heap.size + 1, 6, none⟩ (.slice qv val'.length dv)).setCell ⟨w.heap.size + 1, 7, none⟩ (.string vo')).setCell ⟨w.heap.size + 1, 8, none⟩ (.bool ad')).setCell ⟨w.heap.size + 1, 9, none⟩ (.int .u64 rd')).setCell ⟨w.heap.size + 1, 10, none⟩ (.slice qg se'.length dg)) (w.heap.size + 1) #[.string pa', .int .u64 ht', .string ro', .string tx', .string pr', .string va', .slice qv val'.length dv, .string vo', .bool ad', .int .u64 rd', .slice qg se'.length dg] 36) := Lib.hid (R5'.out.set11 (.string pa') (.int .u64 ht') (.string ro') (.string tx') (.string pr') (.string va') (.slice qv val'.length dv) (.string vo') (.bool ad') (.int .u64 rd') (.slice qg se'.length dg))
  have HB : Hid (Below w.heap.size w (((((((((((W1'.setCell ⟨w.heap.size + 1, 0, none⟩ (.string pa')).setCell ⟨w.heap.size + 1, 1, none⟩ (.int .u64 ht')).setCell ⟨w.heap.size + 1, 2, none⟩ (.string ro')).setCell ⟨w.heap.size + 1, 3, none⟩ (.string tx')).setCell ⟨w.heap.size + 1, 4, none⟩ (.string pr')).setCell ⟨w.heap.size + 1, 5, none⟩ (.string va')).setCell ⟨w.heap.size + 1, 6, none⟩ (.slice qv val'.length dv)).setCell ⟨w.heap.size + 1, 7, none⟩ (.string vo')).setCell ⟨w.heap.size + 1, 8, none⟩ (.bool ad')).setCell ⟨w.heap.size + 1, 9, none⟩ (.int .u64 rd')).setCell ⟨w.heap.size + 1, 10, none⟩ (.slice qg se'.length dg))) := Lib.hid (below_set11 (b := w.heap.size + 1) (o := 0) HB'.out (Nat.le_succ _) (.string pa') (.int .u64 ht') (.string ro') (.string tx') (.string pr') (.string va') (.slice qv val'.length dv) (.string vo') (.bool ad') (.int .u64 rd') (.slice qg se'.length dg))
  clear R4' R5' HB'
  generalize (((((((((((W1'.setCell ⟨w.heap.size + 1, 0, none⟩ (.string pa')).setCell ⟨w.heap.size + 1, 1, none⟩ (.int .u64 ht')).setCell ⟨w.heap.size + 1, 2, none⟩ (.string ro')).setCell ⟨w.heap.size + 1, 3, none⟩ (.string tx')).setCell ⟨w.heap.size + 1, 4, none⟩ (.string pr')).setCell ⟨w.heap.size + 1, 5, none⟩ (.string va')).setCell ⟨w.heap.size + 1, 6, none⟩ (.slice qv val'.length dv)).setCell ⟨w.heap.size + 1, 7, none⟩ (.string vo')).setCell ⟨w.heap.size + 1, 8, none⟩ (.bool ad')).setCell ⟨w.heap.size + 1, 9, none⟩ (.int .u64 rd')).setCell ⟨w.heap.size + 1, 10, none⟩ (.slice qg se'.length dg)) = W2 at *
  have O := Lib.hid (OwnE.start encH (T := 36) (w := W2) (Nat.le_refl W2.heap.size))
  have R := Lib.hid (RowE.below encH HL.out (HB.out.alloc HB.out.size (.cells #[] 36)) (Nat.le_refl _))
  have HBW := HB
  clear HB
  go_wp2_with (at_builtin; refine wpList_append_rowE encH Try.underlying46 info_hd rfl rfl _ _ rfl W2.heap.size _ [] rfl O.out _ L rfl R.out (by unfold maxLen; simp; omega) (by simp; omega) (by simp) ?_)
  intro v1 w1 ho hb hz hnil
  obtain ⟨p1, c1, rfl, k1, k2⟩ := RowE.shape encH (OwnE.row encH ho)
  have HO := Lib.hid (show OwnE encH 36 w1 W2.heap.size (.slice p1 L.length c1) ((L.take 0).map fewH ++ L.drop 0) from ho)
  have HB := Lib.hid (hb _ ((Below.refl W2.heap.size W2).alloc (Nat.le_refl _) _))
  clear ho hb hnil hz O R s1 s3 s5 j1 j2 s2 s4 s6
  unfold maxLen at k2
  go_wp2
  go_loopw [44] (fun c wr => ∃ k : Nat, k ≤ L.length ∧ c = .int .i64 k ∧ Hid (OwnE encH 36 wr W2.heap.size (.slice p1 L.length c1) ((L.take k).map fewH ++ L.drop k)) ∧ Hid (Below W2.heap.size W2 wr)) (fun c _ => L.length - (intOf c).toNat)
  case atStart => exact ⟨0, Nat.zero_le _, rfl, HO, HB⟩
  case round =>
    obtain ⟨k, hk, rfl, ho, hb⟩ := hrel
    clear HO HB
    have HO := Lib.hid ho.out
    have HB := Lib.hid hb.out
    clear ho hb
    by_cases hlt : k < L.length
    · obtain ⟨g, rfl, g1, g2, g3, g4, g5⟩ := OwnE.at HO.out (map_mid (f := fewH) hlt)
      have hset := map_set_step (f := fewH) hlt
      have hraw := HRA.out L[k] (List.getElem_mem hlt)
      have KF := fun W => hraw.call W
      have HM := map_mid (f := fewH) hlt
      have HSET := hset
      generalize hy : fewH L[k] = y at *
      generalize L[k] = x at *
      have hg2 : g < wr.heap.size := g2
      obtain ⟨x, ⟨pv, cv⟩, ⟨pg, cg⟩⟩ := x
      obtain ⟨pa, ht, ro, tx, pr, va, val, vo, ad, rd, se⟩ := x
      obtain ⟨y, ⟨qv, dv⟩, ⟨qg, dg⟩⟩ := y
      obtain ⟨pa', ht', ro', tx', pr', va', val', vo', ad', rd', se'⟩ := y
      obtain ⟨⟨c0, c1', c2, c3, c4, c5, c6, c7, c8, c9, c10⟩, -⟩ := OwnE.at11 HO.out HM
      simp only [HS.sv, HS.gv] at c0 c1' c2 c3 c4 c5 c6 c7 c8 c9 c10
      replace KF : ∀ W, Calls Try.prog 29 #[.agg #[.string pa, .int .u64 ht, .string ro, .string tx, .string pr, .string va, .slice pv val.length cv, .string vo, .bool ad, .int .u64 rd, .slice pg se.length cg]] W fun e w' => e = .returned (.agg #[.string pa', .int .u64 ht', .string ro', .string tx', .string pr', .string va', .slice qv val'.length dv, .string vo', .bool ad', .int .u64 rd', .slice qg se'.length dg]) ∧ Below W.heap.size W w' := KF
      replace KF := Lib.hid KF
      replace HM := Lib.hid HM
      replace HSET := Lib.hid HSET
      clear g3 hset hraw hy g5 g4
      go_wp2_with (go_at_call 29; refine (KF.out _).mono ?_; rintro e w2 ⟨rfl, hb2⟩; have HO2 := Lib.hid (OwnE.below encH HO.out hb2 (Nat.le_refl _)); have HB2 := Lib.hid (HB.out.trans (hb2.mono HB.out.size)); clear hb2 c0 c1' c2 c3 c4 c5 c6 c7 c8 c9 c10; obtain ⟨⟨c0, c1', c2, c3, c4, c5, c6, c7, c8, c9, c10⟩, ⟨f0, f1, f2, f3, f4, f5, f6, f7, f8, f9, f10⟩⟩ := OwnE.at11 HO2.out HM.out; simp only [HS.sv, HS.gv] at c0 c1' c2 c3 c4 c5 c6 c7 c8 c9 c10)
      obtain ⟨g', e1, _, _, _, _, hlay⟩ := OwnE.at HO2.out HM.out
      injection e1 with e1
      injection e1 with e1 _ _
      subst e1
      have hfin := hlay (⟨pa', ht', ro', tx', pr', va', val', vo', ad', rd', se'⟩, (qv, dv), (qg, dg)) w2 (fun _ h => h)
      rw [HSET.out] at hfin
      have hfb := layW_below (encH.cells (⟨pa', ht', ro', tx', pr', va', val', vo', ad', rd', se'⟩, (qv, dv), (qg, dg))) w2 W2 g (k * 11) W2.heap.size HB2.out g1
      exact ⟨⟨k + 1, by omega, by simp, Lib.hid hfin, Lib.hid hfb⟩, by simp [intOf]; omega⟩
    · obtain rfl : k = L.length := by omega
      have HM : Hid (OH wr W2.heap.size (.slice p1 L.length c1) (L.map fewH)) := Lib.hid (by have := HO.out; rw [List.take_length, List.drop_length, List.append_nil] at this; exact this)
      have hok : ∀ x ∈ L.map fewH, HsOk w x := fun x hx => by
        obtain ⟨y, hy, rfl⟩ := List.mem_map.1 hx
        exact (HRA.out y hy).few
      have hlen : (L.map fewH).length = L.length := by simp
      generalize L.map fewH = M at *
      have HOK := Lib.hid hok
      clear HO hok HRA hlt hk
      have HBA := Lib.hid (HBW.out.trans (HB.out.mono HBW.out.size))
      have R4w := Lib.hid (R4.out.belowS HB.out)
      have R5w := Lib.hid (R5.out.belowS HB.out)
      have HSw := Lib.hid (HSr.out.below HBA.out (Nat.le_refl _))
      have HVw := Lib.hid (HVr.out.below HBA.out (Nat.le_refl _))
      clear R4 R5 HSr HVr HB HBW HL
      have hv100 : val'.length ≤ 100000 := HYO.out.2.1
      have hht : 0 ≤ ht' := HYO.out.2.2
      have K9 := fun W (h1 : RS W (.slice pS S.length cS) S) (h2 : RB W (.slice pV V.length cV) V) (h3 : HdAt W ⟨pa', ht', ro', tx', pr', va', val', vo', ad', rd', se'⟩ (.slice qv val'.length dv) (.slice qg se'.length dg)) => next_any _ _ S V ⟨pa', ht', ro', tx', pr', va', val', vo', ad', rd', se'⟩ _ _ ep W h1 h2 h3 (by omega) (by omega) hv100 bep.1 hht
      have K10 := fun W (h1 : RS W (.slice pS S.length cS) S) (h2 : RB W (.slice pV V.length cV) V) (h3 : HdAt W ⟨pa', ht', ro', tx', pr', va', val', vo', ad', rd', se'⟩ (.slice qv val'.length dv) (.slice qg se'.length dg)) => rnext_any _ _ S V ⟨pa', ht', ro', tx', pr', va', val', vo', ad', rd', se'⟩ _ _ ep W h1 h2 h3 (by omega) (by omega) hv100 bep.1 hht
      have K11 := fun W (h1 : RS W (.slice pS S.length cS) S) (h2 : RowE encH W (.slice p1 L.length c1) M) (h3 : ∀ x ∈ M, HsOk W x) => fold_any _ S _ M ep W h1 h2 h3 (by omega) (by omega) bep.1
      have K12 := fun W (h1 : RS W (.slice pS S.length cS) S) (h2 : RowE encH W (.slice p1 L.length c1) M) (h3 : ∀ x ∈ M, HsOk W x) => rfold_any _ S _ M ep W h1 h2 h3 (by omega) (by omega) bep.1
      generalize nextF S V ⟨pa', ht', ro', tx', pr', va', val', vo', ad', rd', se'⟩ ep = r1 at *
      generalize foldF S M ep = r2 at *
      obtain ⟨X, VX, cx⟩ := r1
      obtain ⟨Y, VY, cy⟩ := r2
      have K9 := Lib.hid (K9 wr HSw.out HVw.out (HYO.out.below HBA.out).1)
      have K10 := Lib.hid K10
      have K11 := Lib.hid K11
      have K12 := Lib.hid K12
      obtain ⟨x0, x1, xf0, xf1⟩ := R4w.out.c2
      obtain ⟨y0, y1, y2, y3, y4, y5, y6, y7, y8, y9, y10⟩ := R5w.out.c11
      go_upto_region 10 with (go_at_call 30; refine K9.out.mono ?_; rintro e wa ⟨pXa, cXa, pYa, cYa, rfl, hX, hY, hb, n1, n2⟩; have HXa : Hid (RS _ _ X) := Lib.hid hX; have HYa : Hid (RB _ _ VX) := Lib.hid hY; clear hX hY n1 n2; (replace R4w := Lib.hid (R4w.out.belowS hb); replace R5w := Lib.hid (R5w.out.belowS hb); replace HM := Lib.hid (HM.out.below hb (Nat.le_refl _)); replace HSw := Lib.hid (HSw.out.below hb (Nat.le_refl _)); replace HVw := Lib.hid (HVw.out.below hb (Nat.le_refl _)); replace HBA := Lib.hid (HBA.out.trans (hb.mono HBA.out.size)); clear hb); clear K9 x0 x1 xf0 xf1 y0 y1 y2 y3 y4 y5 y6 y7 y8 y9 y10)
      (replace R4w := Lib.hid (R4w.out.alloc (.cells #[.slice pXa X.length cXa, .slice pYa VX.length cYa] 45)); replace R5w := Lib.hid (R5w.out.alloc (.cells #[.slice pXa X.length cXa, .slice pYa VX.length cYa] 45)); replace HM := Lib.hid (HM.out.below ((Below.refl (wa).heap.size (wa)).alloc (Nat.le_refl _) (.cells #[.slice pXa X.length cXa, .slice pYa VX.length cYa] 45)) (Nat.le_refl _)); replace HSw := Lib.hid (HSw.out.below ((Below.refl (wa).heap.size (wa)).alloc (Nat.le_refl _) (.cells #[.slice pXa X.length cXa, .slice pYa VX.length cYa] 45)) (Nat.le_refl _)); replace HVw := Lib.hid (HVw.out.below ((Below.refl (wa).heap.size (wa)).alloc (Nat.le_refl _) (.cells #[.slice pXa X.length cXa, .slice pYa VX.length cYa] 45)) (Nat.le_refl _)); replace HXa := Lib.hid (HXa.out.below ((Below.refl (wa).heap.size (wa)).alloc (Nat.le_refl _) (.cells #[.slice pXa X.length cXa, .slice pYa VX.length cYa] 45)) (Nat.le_refl _)); replace HYa := Lib.hid (HYa.out.below ((Below.refl (wa).heap.size (wa)).alloc (Nat.le_refl _) (.cells #[.slice pXa X.length cXa, .slice pYa VX.length cYa] 45)) (Nat.le_refl _)); replace HBA := Lib.hid (HBA.out.alloc HBA.out.size (.cells #[.slice pXa X.length cXa, .slice pYa VX.length cYa] 45)))
      have Ra := Lib.hid (RowAt.new wa #[.slice pXa X.length cXa, .slice pYa VX.length cYa] 45)
      generalize wa.alloc (.cells #[.slice pXa X.length cXa, .slice pYa VX.length cYa] 45) = w10 at *
      generalize wa.heap.size = ka at *
      obtain ⟨x0, x1, xf0, xf1⟩ := R4w.out.c2
      obtain ⟨y0, y1, y2, y3, y4, y5, y6, y7, y8, y9, y10⟩ := R5w.out.c11
      have K10' := Lib.hid (K10.out w10 HSw.out HVw.out (HYO.out.below HBA.out).1)
      clear K10
      go_upto_region 11 with (go_at_call 31; refine K10'.out.mono ?_; rintro e wb ⟨pXb, cXb, pYb, cYb, rfl, hX, hY, hb, -⟩; have HXb : Hid (RS _ _ X) := Lib.hid hX; have HYb : Hid (RB _ _ VX) := Lib.hid hY; clear hX hY; (replace R4w := Lib.hid (R4w.out.belowS hb); replace R5w := Lib.hid (R5w.out.belowS hb); replace Ra := Lib.hid (Ra.out.belowS hb); replace HM := Lib.hid (HM.out.below hb (Nat.le_refl _)); replace HSw := Lib.hid (HSw.out.below hb (Nat.le_refl _)); replace HVw := Lib.hid (HVw.out.below hb (Nat.le_refl _)); replace HXa := Lib.hid (HXa.out.below hb (Nat.le_refl _)); replace HYa := Lib.hid (HYa.out.below hb (Nat.le_refl _)); replace HBA := Lib.hid (HBA.out.trans (hb.mono HBA.out.size)); clear hb); clear K10' x0 x1 xf0 xf1 y0 y1 y2 y3 y4 y5 y6 y7 y8 y9 y10)
      (replace R4w := Lib.hid (R4w.out.alloc (.cells #[.slice pXb X.length cXb, .slice pYb VX.length cYb] 45)); replace R5w := Lib.hid (R5w.out.alloc (.cells #[.slice pXb X.length cXb, .slice pYb VX.length cYb] 45)); replace Ra := Lib.hid (Ra.out.alloc (.cells #[.slice pXb X.length cXb, .slice pYb VX.length cYb] 45)); replace HM := Lib.hid (HM.out.below ((Below.refl (wb).heap.size (wb)).alloc (Nat.le_refl _) (.cells #[.slice pXb X.length cXb, .slice pYb VX.length cYb] 45)) (Nat.le_refl _)); replace HSw := Lib.hid (HSw.out.below ((Below.refl (wb).heap.size (wb)).alloc (Nat.le_refl _) (.cells #[.slice pXb X.length cXb, .slice pYb VX.length cYb] 45)) (Nat.le_refl _)); replace HVw := Lib.hid (HVw.out.below ((Below.refl (wb).heap.size (wb)).alloc (Nat.le_refl _) (.cells #[.slice pXb X.length cXb, .slice pYb VX.length cYb] 45)) (Nat.le_refl _)); replace HXa := Lib.hid (HXa.out.below ((Below.refl (wb).heap.size (wb)).alloc (Nat.le_refl _) (.cells #[.slice pXb X.length cXb, .slice pYb VX.length cYb] 45)) (Nat.le_refl _)); replace HYa := Lib.hid (HYa.out.below ((Below.refl (wb).heap.size (wb)).alloc (Nat.le_refl _) (.cells #[.slice pXb X.length cXb, .slice pYb VX.length cYb] 45)) (Nat.le_refl _)); replace HXb := Lib.hid (HXb.out.below ((Below.refl (wb).heap.size (wb)).alloc (Nat.le_refl _) (.cells #[.slice pXb X.length cXb, .slice pYb VX.length cYb] 45)) (Nat.le_refl _)); replace HYb := Lib.hid (HYb.out.below ((Below.refl (wb).heap.size (wb)).alloc (Nat.le_refl _) (.cells #[.slice pXb X.length cXb, .slice pYb VX.length cYb] 45)) (Nat.le_refl _)); replace HBA := Lib.hid (HBA.out.alloc HBA.out.size (.cells #[.slice pXb X.length cXb, .slice pYb VX.length cYb] 45)))
      have Rb := Lib.hid (RowAt.new wb #[.slice pXb X.length cXb, .slice pYb VX.length cYb] 45)
      generalize wb.alloc (.cells #[.slice pXb X.length cXb, .slice pYb VX.length cYb] 45) = w11 at *
      generalize wb.heap.size = kb at *
      obtain ⟨x0, x1, xf0, xf1⟩ := R4w.out.c2
      have K11' := Lib.hid (K11.out w11 HSw.out (OwnE.row encH HM.out) (fun x hx => (HOK.out x hx).below HBA.out))
      clear K11
      go_upto_region 12 with (go_at_call 32; refine K11'.out.mono ?_; rintro e wc ⟨pXc, cXc, pYc, cYc, rfl, hX, hY, hb, -⟩; have HXc : Hid (RS _ _ Y) := Lib.hid hX; have HYc : Hid (RB _ _ VY) := Lib.hid hY; clear hX hY; (replace R4w := Lib.hid (R4w.out.belowS hb); replace R5w := Lib.hid (R5w.out.belowS hb); replace Ra := Lib.hid (Ra.out.belowS hb); replace Rb := Lib.hid (Rb.out.belowS hb); replace HM := Lib.hid (HM.out.below hb (Nat.le_refl _)); replace HSw := Lib.hid (HSw.out.below hb (Nat.le_refl _)); replace HVw := Lib.hid (HVw.out.below hb (Nat.le_refl _)); replace HXa := Lib.hid (HXa.out.below hb (Nat.le_refl _)); replace HYa := Lib.hid (HYa.out.below hb (Nat.le_refl _)); replace HXb := Lib.hid (HXb.out.below hb (Nat.le_refl _)); replace HYb := Lib.hid (HYb.out.below hb (Nat.le_refl _)); replace HBA := Lib.hid (HBA.out.trans (hb.mono HBA.out.size)); clear hb); clear K11' x0 x1 xf0 xf1)
      (replace R4w := Lib.hid (R4w.out.alloc (.cells #[.slice pXc Y.length cXc, .slice pYc VY.length cYc] 45)); replace R5w := Lib.hid (R5w.out.alloc (.cells #[.slice pXc Y.length cXc, .slice pYc VY.length cYc] 45)); replace Ra := Lib.hid (Ra.out.alloc (.cells #[.slice pXc Y.length cXc, .slice pYc VY.length cYc] 45)); replace Rb := Lib.hid (Rb.out.alloc (.cells #[.slice pXc Y.length cXc, .slice pYc VY.length cYc] 45)); replace HM := Lib.hid (HM.out.below ((Below.refl (wc).heap.size (wc)).alloc (Nat.le_refl _) (.cells #[.slice pXc Y.length cXc, .slice pYc VY.length cYc] 45)) (Nat.le_refl _)); replace HSw := Lib.hid (HSw.out.below ((Below.refl (wc).heap.size (wc)).alloc (Nat.le_refl _) (.cells #[.slice pXc Y.length cXc, .slice pYc VY.length cYc] 45)) (Nat.le_refl _)); replace HVw := Lib.hid (HVw.out.below ((Below.refl (wc).heap.size (wc)).alloc (Nat.le_refl _) (.cells #[.slice pXc Y.length cXc, .slice pYc VY.length cYc] 45)) (Nat.le_refl _)); replace HXa := Lib.hid (HXa.out.below ((Below.refl (wc).heap.size (wc)).alloc (Nat.le_refl _) (.cells #[.slice pXc Y.length cXc, .slice pYc VY.length cYc] 45)) (Nat.le_refl _)); replace HYa := Lib.hid (HYa.out.below ((Below.refl (wc).heap.size (wc)).alloc (Nat.le_refl _) (.cells #[.slice pXc Y.length cXc, .slice pYc VY.length cYc] 45)) (Nat.le_refl _)); replace HXb := Lib.hid (HXb.out.below ((Below.refl (wc).heap.size (wc)).alloc (Nat.le_refl _) (.cells #[.slice pXc Y.length cXc, .slice pYc VY.length cYc] 45)) (Nat.le_refl _)); replace HYb := Lib.hid (HYb.out.below ((Below.refl (wc).heap.size (wc)).alloc (Nat.le_refl _) (.cells #[.slice pXc Y.length cXc, .slice pYc VY.length cYc] 45)) (Nat.le_refl _)); replace HXc := Lib.hid (HXc.out.below ((Below.refl (wc).heap.size (wc)).alloc (Nat.le_refl _) (.cells #[.slice pXc Y.length cXc, .slice pYc VY.length cYc] 45)) (Nat.le_refl _)); replace HYc := Lib.hid (HYc.out.below ((Below.refl (wc).heap.size (wc)).alloc (Nat.le_refl _) (.cells #[.slice pXc Y.length cXc, .slice pYc VY.length cYc] 45)) (Nat.le_refl _)); replace HBA := Lib.hid (HBA.out.alloc HBA.out.size (.cells #[.slice pXc Y.length cXc, .slice pYc VY.length cYc] 45)))
      have Rc := Lib.hid (RowAt.new wc #[.slice pXc Y.length cXc, .slice pYc VY.length cYc] 45)
      generalize wc.alloc (.cells #[.slice pXc Y.length cXc, .slice pYc VY.length cYc] 45) = w12 at *
      generalize wc.heap.size = kc at *
      obtain ⟨x0, x1, xf0, xf1⟩ := R4w.out.c2
      have K12' := Lib.hid (K12.out w12 HSw.out (OwnE.row encH HM.out) (fun x hx => (HOK.out x hx).below HBA.out))
      clear K12
      go_upto_region 13 with (go_at_call 33; refine K12'.out.mono ?_; rintro e wd ⟨pXd, cXd, pYd, cYd, rfl, hX, hY, hb, -⟩; have HXd : Hid (RS _ _ Y) := Lib.hid hX; have HYd : Hid (RB _ _ VY) := Lib.hid hY; clear hX hY; (replace R4w := Lib.hid (R4w.out.belowS hb); replace R5w := Lib.hid (R5w.out.belowS hb); replace Ra := Lib.hid (Ra.out.belowS hb); replace Rb := Lib.hid (Rb.out.belowS hb); replace Rc := Lib.hid (Rc.out.belowS hb); replace HM := Lib.hid (HM.out.below hb (Nat.le_refl _)); replace HSw := Lib.hid (HSw.out.below hb (Nat.le_refl _)); replace HVw := Lib.hid (HVw.out.below hb (Nat.le_refl _)); replace HXa := Lib.hid (HXa.out.below hb (Nat.le_refl _)); replace HYa := Lib.hid (HYa.out.below hb (Nat.le_refl _)); replace HXb := Lib.hid (HXb.out.below hb (Nat.le_refl _)); replace HYb := Lib.hid (HYb.out.below hb (Nat.le_refl _)); replace HXc := Lib.hid (HXc.out.below hb (Nat.le_refl _)); replace HYc := Lib.hid (HYc.out.below hb (Nat.le_refl _)); replace HBA := Lib.hid (HBA.out.trans (hb.mono HBA.out.size)); clear hb); clear K12' x0 x1 xf0 xf1)
      (replace R4w := Lib.hid (R4w.out.alloc (.cells #[.slice pXd Y.length cXd, .slice pYd VY.length cYd] 45)); replace R5w := Lib.hid (R5w.out.alloc (.cells #[.slice pXd Y.length cXd, .slice pYd VY.length cYd] 45)); replace Ra := Lib.hid (Ra.out.alloc (.cells #[.slice pXd Y.length cXd, .slice pYd VY.length cYd] 45)); replace Rb := Lib.hid (Rb.out.alloc (.cells #[.slice pXd Y.length cXd, .slice pYd VY.length cYd] 45)); replace Rc := Lib.hid (Rc.out.alloc (.cells #[.slice pXd Y.length cXd, .slice pYd VY.length cYd] 45)); replace HM := Lib.hid (HM.out.below ((Below.refl (wd).heap.size (wd)).alloc (Nat.le_refl _) (.cells #[.slice pXd Y.length cXd, .slice pYd VY.length cYd] 45)) (Nat.le_refl _)); replace HSw := Lib.hid (HSw.out.below ((Below.refl (wd).heap.size (wd)).alloc (Nat.le_refl _) (.cells #[.slice pXd Y.length cXd, .slice pYd VY.length cYd] 45)) (Nat.le_refl _)); replace HVw := Lib.hid (HVw.out.below ((Below.refl (wd).heap.size (wd)).alloc (Nat.le_refl _) (.cells #[.slice pXd Y.length cXd, .slice pYd VY.length cYd] 45)) (Nat.le_refl _)); replace HXa := Lib.hid (HXa.out.below ((Below.refl (wd).heap.size (wd)).alloc (Nat.le_refl _) (.cells #[.slice pXd Y.length cXd, .slice pYd VY.length cYd] 45)) (Nat.le_refl _)); replace HYa := Lib.hid (HYa.out.below ((Below.refl (wd).heap.size (wd)).alloc (Nat.le_refl _) (.cells #[.slice pXd Y.length cXd, .slice pYd VY.length cYd] 45)) (Nat.le_refl _)); replace HXb := Lib.hid (HXb.out.below ((Below.refl (wd).heap.size (wd)).alloc (Nat.le_refl _) (.cells #[.slice pXd Y.length cXd, .slice pYd VY.length cYd] 45)) (Nat.le_refl _)); replace HYb := Lib.hid (HYb.out.below ((Below.refl (wd).heap.size (wd)).alloc (Nat.le_refl _) (.cells #[.slice pXd Y.length cXd, .slice pYd VY.length cYd] 45)) (Nat.le_refl _)); replace HXc := Lib.hid (HXc.out.below ((Below.refl (wd).heap.size (wd)).alloc (Nat.le_refl _) (.cells #[.slice pXd Y.length cXd, .slice pYd VY.length cYd] 45)) (Nat.le_refl _)); replace HYc := Lib.hid (HYc.out.below ((Below.refl (wd).heap.size (wd)).alloc (Nat.le_refl _) (.cells #[.slice pXd Y.length cXd, .slice pYd VY.length cYd] 45)) (Nat.le_refl _)); replace HXd := Lib.hid (HXd.out.below ((Below.refl (wd).heap.size (wd)).alloc (Nat.le_refl _) (.cells #[.slice pXd Y.length cXd, .slice pYd VY.length cYd] 45)) (Nat.le_refl _)); replace HYd := Lib.hid (HYd.out.below ((Below.refl (wd).heap.size (wd)).alloc (Nat.le_refl _) (.cells #[.slice pXd Y.length cXd, .slice pYd VY.length cYd] 45)) (Nat.le_refl _)); replace HBA := Lib.hid (HBA.out.alloc HBA.out.size (.cells #[.slice pXd Y.length cXd, .slice pYd VY.length cYd] 45)))
      have Rd := Lib.hid (RowAt.new wd #[.slice pXd Y.length cXd, .slice pYd VY.length cYd] 45)
      generalize wd.alloc (.cells #[.slice pXd Y.length cXd, .slice pYd VY.length cYd] 45) = w13 at *
      generalize wd.heap.size = kd at *
      have KL1 := fun W (h1 : RS W (.slice pXa X.length cXa) X) (h2 : RB W (.slice pYa VX.length cYa) VX) (h3 : RS W (.slice pXb X.length cXb) X) (h4 : RB W (.slice pYb VX.length cYb) VX) => like_any (.slice pXa X.length cXa) (.slice pYa VX.length cYa) (.slice pXb X.length cXb) (.slice pYb VX.length cYb) X VX X VX W h1 h2 h3 h4
      have KL2 := fun W (h1 : RS W (.slice pXc Y.length cXc) Y) (h2 : RB W (.slice pYc VY.length cYc) VY) (h3 : RS W (.slice pXd Y.length cXd) Y) (h4 : RB W (.slice pYd VY.length cYd) VY) => like_any (.slice pXc Y.length cXc) (.slice pYc VY.length cYc) (.slice pXd Y.length cXd) (.slice pYd VY.length cYd) Y VY Y VY W h1 h2 h3 h4
      rw [likeL_true ⟨rfl, rfl⟩] at KL1 KL2
      replace KL1 := Lib.hid KL1
      replace KL2 := Lib.hid KL2
      clear R4w R5w HM HSw HVw HOK HYO
      obtain ⟨a0, a1, af0, af1⟩ := Ra.out.c2
      obtain ⟨b0, b1, bf0, bf1⟩ := Rb.out.c2
      go_wp2_with (first | (go_at_call 34; refine (alive20_any _).mono ?_; rintro e wz ⟨rfl, rfl⟩) | (go_at_call 35; with_reducible refine (KL1.out _ HXa.out HYa.out HXb.out HYb.out).mono ?_; rintro e wz ⟨rfl, hb⟩; (replace Rc := Lib.hid (Rc.out.belowS hb); replace Rd := Lib.hid (Rd.out.belowS hb); replace HXc := Lib.hid (HXc.out.below hb (Nat.le_refl _)); replace HYc := Lib.hid (HYc.out.below hb (Nat.le_refl _)); replace HXd := Lib.hid (HXd.out.below hb (Nat.le_refl _)); replace HYd := Lib.hid (HYd.out.below hb (Nat.le_refl _)); replace HBA := Lib.hid (HBA.out.trans (hb.mono HBA.out.size)); clear hb); clear KL1 HXa HYa HXb HYb; obtain ⟨c0, c1', cf0, cf1⟩ := Rc.out.c2; obtain ⟨d0, d1, df0, df1⟩ := Rd.out.c2) | (go_at_call 35; with_reducible refine (KL2.out _ HXc.out HYc.out HXd.out HYd.out).mono ?_; rintro e wz2 ⟨rfl, hb⟩; have HE := Lib.hid (HBA.out.trans (hb.mono HBA.out.size)); clear hb))
      go_ret
      exact ⟨rfl, HE.out⟩
end Go.Proofs.Ythipnbiilobjeaa

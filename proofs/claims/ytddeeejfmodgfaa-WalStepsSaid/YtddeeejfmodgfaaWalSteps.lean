/- WalSteps: the walk. -/
import Derived.Test.YtddeeejfmodgfaaWal7
import Derived.Test.YtddeeejfmodgfaaLaterTail
import Derived.Test.YtddeeejfmodgfaaWalRep
import Derived.Deep.RegionWith
import Derived.Deep.DeepCutAuto
namespace Go.Proofs.Ytddeeejfmodgfaa
open Go.RowKit

theorem strRow_shape {w : World} {v : Value} {l : List ByteArray} {n : Nat} (h : StrRow w v l) (hn : l.length = n) : ∃ (p : Option Addr) (cap : Nat), v = .slice p n cap := by
  subst hn
  obtain ⟨p, cap, e, _⟩ := strRow_slice h
  exact ⟨p, cap, e⟩

theorem logOk_begin {b : ByteArray} {n : Int} {ss : List ByteArray} {r : ByteArray} (h : LogOk b n ss) (hr : 1 ≤ r.size ∧ r.size ≤ 4000) (hb : b.size ≤ 190000) : LogOk (b ++ mkS (frameL (bl r))) n (ss ++ [r]) := by
  have hz : (b ++ mkS (frameL (bl r))).size = b.size + (mkS (frameL (bl r))).size := ByteArray.size_append
  have zF : (mkS (frameL (bl r))).size ≤ 4006 := by rw [mk_size, frameL_length, bl_length]; omega
  obtain ⟨⟨h1, h2, h3⟩, h4, h5⟩ := h
  refine ⟨⟨by omega, h2, by omega⟩, fun s hs => ?_, ?_⟩
  · rcases List.mem_append.1 hs with hs | hs
    · exact h4 s hs
    · rw [List.mem_singleton.1 hs]; exact hr
  · rw [List.map_append, List.map_cons, List.map_nil, framesOf_snoc, h5, bl_append, bl_mk]

/-- What a good log's device is opened as. -/
theorem wopen_log (b : ByteArray) (n : Int) (ss : List ByteArray) (w : World) (h : LogOk b n ss) :
    Calls Try.prog 43 #[dev b n] w fun e w' => ∃ v, e = .returned (.tuple #[logV b b.size v, .int .i64 0]) ∧ OwnS w' w.heap.size v ss ∧ Below w.heap.size w w' := by
  obtain ⟨⟨h1, h2, h3⟩, h4⟩ := h
  have hs := (scan_iff b ss).2 h4
  refine (wopen_yes b n w h1 h2 h3).mono fun e w' ⟨v, he, ho, hb⟩ => ?_
  rw [hs] at he ho
  simp only [map_bl_mk, extract_all] at he ho
  exact ⟨v, he, ho, hb⟩

set_option maxRecDepth 100000 in
set_option maxHeartbeats 4000000 in
theorem steps_any (b : ByteArray) (n : Int) (v : Value) (ss : List ByteArray) (r : ByteArray) (w : World) (hv : StrRow w v ss) (hz : ∀ i, (ss.getD i ByteArray.empty).size ≤ maxLen) (hb : b.size ≤ 9223372036854775807) (hr : r.size ≤ 9223372036854775807) :
    Calls Try.prog 13 #[logV b n v, .string r] w fun e w' => e = .returned (.bool true) ∧ Below w.heap.size w w' := by
  obtain ⟨b', p, cap, ss', f1, f2, f3, hv', hf⟩ := few_use b n v ss w hv hz hb
  obtain ⟨m, m1, m2, m3⟩ := minIs_ex 300 (by omega) r.size
  have HV := Lib.hid hv
  have HV' := Lib.hid hv'
  have KF := Lib.hid hf
  have L : Hid (RowAt (w.alloc (logO b n v)) w.heap.size #[.string b, .int .i64 n, v] 49) := Lib.hid (RowAt.new _ _ _)
  have B : Hid (Below w.heap.size w (w.alloc (logO b n v))) := Lib.hid ((Below.refl w.heap.size w).alloc (Nat.le_refl _) _)
  obtain ⟨p0, cap0, rfl, _⟩ := strRow_slice hv
  clear hv hv' hf hz
  go_enter Try.func13, Try.ntmps13
  obtain ⟨a0, a1, a2, af0, af1, af2⟩ := L.out.c3
  go_wp2
  go_upto_region 1 with (fail)
  go_cut [1] (fun s1 wr => s1 = .string (r.extract 0 m) ∧ Hid (RowAt wr w.heap.size #[.string b', .int .i64 n, .slice p ss'.length cap] 49) ∧ Hid (Below w.heap.size w wr))
  case first =>
    go_region_with (go_at_call 38; refine (KF.out _ (HV.out.below B.out.drew (Nat.le_refl _))).mono ?_; rintro e w1 ⟨rfl, hb1⟩; obtain ⟨e0, e1, e2, g0, g1, g2⟩ := (L.out.drew.belowS hb1).c3)
    all_goals
      go_wp2_with (fail)
      go_meet
      case rel =>
        refine ⟨rfl, Lib.hid ((((L.out.drew.belowS hb1).set 0 _ rfl).set 1 _ rfl).set 2 _ rfl), Lib.hid ?_⟩
        exact (((B.out.drew.trans (hb1.mono (by simp))).setCell (p := ⟨w.heap.size, 0, none⟩) (Nat.le_refl _) _).setCell (p := ⟨w.heap.size, 1, none⟩) (Nat.le_refl _) _).setCell (p := ⟨w.heap.size, 2, none⟩) (Nat.le_refl _) _
  case rest =>
    obtain ⟨rfl, L2, B2⟩ := hcut
    clear a0 a1 a2 af0 af1 af2
    have zR : (r.extract 0 m).size = m := by rw [ByteArray.size_extract]; omega
    have zR2 : (r.extract 0 m).size ≤ 300 := by omega
    clear L B KF m1 m2 m3 zR hr hb HV
    generalize r.extract 0 m = R at *
    have HV := Lib.hid (HV'.out.below B2.out (Nat.le_refl _))
    clear HV'
    have x0 := L2.out.lt
    by_cases hok : LogOk b' n ss' ∧ 1 ≤ R.size ∧ R.size ≤ 4000
    · have KA := Lib.hid (fun w hv => wappend_yes b' n (.slice p ss'.length cap) ss' R w hv hok.1 hok.2 (by omega) (by omega))
      have KB := Lib.hid (fun w hv => wbegin_yes b' n (.slice p ss'.length cap) ss' R w hv hok.1 hok.2 (by omega) (by omega))
      have hlog := logOk_begin hok.1 hok.2 (by omega)
      have zF : (mkS (frameL (bl R))).size ≤ 4006 := by rw [mk_size, frameL_length, bl_length]; omega
      have zC : (b' ++ mkS (frameL (bl R))).size ≤ 200000 := by rw [ByteArray.size_append]; omega
      generalize b' ++ mkS (frameL (bl R)) = C at *
      have KS := Lib.hid (fun w => sync_yes C n w hlog.1.1 hlog.1.2.1 hlog.1.2.2)
      have hlog2 : LogOk C (C.size : Int) (ss' ++ [R]) := ⟨⟨hlog.1.1, by omega, Int.le_refl _⟩, hlog.2⟩
      have KO := Lib.hid (fun w => wopen_log C C.size (ss' ++ [R]) w hlog2)
      have HLEN : Hid ((ss' ++ [R]).length = ss'.length + 1) := Lib.hid (by simp)
      clear hok hlog hlog2 zF
      generalize ss' ++ [R] = ts at *
      obtain ⟨a0, a1, a2, af0, af1, af2⟩ := L2.out.c3
      go_wp2_with fail
      refine (KA.out _ HV.out).mono ?_
      rintro e w1 ⟨va, rfl, oa, hb⟩
      have OA := Lib.hid oa.row
      (replace L2 := Lib.hid (L2.out.belowS hb); replace HV := Lib.hid (HV.out.below hb (Nat.le_refl _)); replace B2 := Lib.hid (B2.out.trans (hb.mono B2.out.size)); clear hb)
      obtain ⟨pa, ca, rfl⟩ := strRow_shape OA.out HLEN.out
      clear oa
      clear a0 a1 a2 af0 af1 af2
      (replace L2 := Lib.hid (L2.out.alloc (logO C C.size (.slice pa (ss'.length + 1) ca))); replace HV := Lib.hid (HV.out.below ((Below.refl (w1).heap.size (w1)).alloc (Nat.le_refl _) (logO C C.size (.slice pa (ss'.length + 1) ca))) (Nat.le_refl _)); replace OA := Lib.hid (OA.out.below ((Below.refl (w1).heap.size (w1)).alloc (Nat.le_refl _) (logO C C.size (.slice pa (ss'.length + 1) ca))) (Nat.le_refl _)); replace B2 := Lib.hid (B2.out.alloc B2.out.size (logO C C.size (.slice pa (ss'.length + 1) ca))))
      have A2 : Hid (RowAt (w1.alloc (logO C C.size (.slice pa (ss'.length + 1) ca))) w1.heap.size #[.string C, .int .i64 C.size, .slice pa (ss'.length + 1) ca] 49) := Lib.hid (RowAt.new _ _ _)
      obtain ⟨a0, a1, a2, af0, af1, af2⟩ := L2.out.c3
      go_wp2_with fail
      refine (KB.out _ HV.out).mono ?_
      rintro e w2 ⟨vb, rfl, ob, hb⟩
      have OB := Lib.hid ob.row
      (replace L2 := Lib.hid (L2.out.belowS hb); replace A2 := Lib.hid (A2.out.belowS hb); replace HV := Lib.hid (HV.out.below hb (Nat.le_refl _)); replace OA := Lib.hid (OA.out.below hb (Nat.le_refl _)); replace B2 := Lib.hid (B2.out.trans (hb.mono B2.out.size)); clear hb)
      obtain ⟨pb, cb, rfl⟩ := strRow_shape OB.out HLEN.out
      clear ob
      clear a0 a1 a2 af0 af1 af2
      (replace L2 := Lib.hid (L2.out.alloc (logO C n (.slice pb (ss'.length + 1) cb))); replace A2 := Lib.hid (A2.out.alloc (logO C n (.slice pb (ss'.length + 1) cb))); replace HV := Lib.hid (HV.out.below ((Below.refl (w2).heap.size (w2)).alloc (Nat.le_refl _) (logO C n (.slice pb (ss'.length + 1) cb))) (Nat.le_refl _)); replace OA := Lib.hid (OA.out.below ((Below.refl (w2).heap.size (w2)).alloc (Nat.le_refl _) (logO C n (.slice pb (ss'.length + 1) cb))) (Nat.le_refl _)); replace OB := Lib.hid (OB.out.below ((Below.refl (w2).heap.size (w2)).alloc (Nat.le_refl _) (logO C n (.slice pb (ss'.length + 1) cb))) (Nat.le_refl _)); replace B2 := Lib.hid (B2.out.alloc B2.out.size (logO C n (.slice pb (ss'.length + 1) cb))))
      have D2 : Hid (RowAt (w2.alloc (logO C n (.slice pb (ss'.length + 1) cb))) w2.heap.size #[.string C, .int .i64 n, .slice pb (ss'.length + 1) cb] 49) := Lib.hid (RowAt.new _ _ _)
      obtain ⟨d0, d1, d2, df0, df1, df2⟩ := D2.out.c3
      go_wp2_with fail
      refine (KS.out _).mono ?_
      rintro e w3 ⟨rfl, hb⟩
      (replace L2 := Lib.hid (L2.out.belowS hb); replace A2 := Lib.hid (A2.out.belowS hb); replace D2 := Lib.hid (D2.out.belowS hb); replace HV := Lib.hid (HV.out.below hb (Nat.le_refl _)); replace OA := Lib.hid (OA.out.below hb (Nat.le_refl _)); replace OB := Lib.hid (OB.out.below hb (Nat.le_refl _)); replace B2 := Lib.hid (B2.out.trans (hb.mono B2.out.size)); clear hb)
      clear d0 d1 d2 df0 df1 df2
      (replace L2 := Lib.hid (L2.out.alloc (devO C C.size)); replace A2 := Lib.hid (A2.out.alloc (devO C C.size)); replace D2 := Lib.hid (D2.out.alloc (devO C C.size)); replace HV := Lib.hid (HV.out.below ((Below.refl (w3).heap.size (w3)).alloc (Nat.le_refl _) (devO C C.size)) (Nat.le_refl _)); replace OA := Lib.hid (OA.out.below ((Below.refl (w3).heap.size (w3)).alloc (Nat.le_refl _) (devO C C.size)) (Nat.le_refl _)); replace OB := Lib.hid (OB.out.below ((Below.refl (w3).heap.size (w3)).alloc (Nat.le_refl _) (devO C C.size)) (Nat.le_refl _)); replace B2 := Lib.hid (B2.out.alloc B2.out.size (devO C C.size)))
      have E2 : Hid (RowAt (w3.alloc (devO C C.size)) w3.heap.size #[.string C, .int .i64 C.size] 47) := Lib.hid (RowAt.new _ _ _)
      obtain ⟨d0, d1, df0, df1⟩ := E2.out.c2
      go_wp2_with fail
      refine (KO.out _).mono ?_
      rintro e w4 ⟨vo, rfl, oo, hb⟩
      have OO := Lib.hid oo.row
      (replace L2 := Lib.hid (L2.out.belowS hb); replace A2 := Lib.hid (A2.out.belowS hb); replace D2 := Lib.hid (D2.out.belowS hb); replace E2 := Lib.hid (E2.out.belowS hb); replace HV := Lib.hid (HV.out.below hb (Nat.le_refl _)); replace OA := Lib.hid (OA.out.below hb (Nat.le_refl _)); replace OB := Lib.hid (OB.out.below hb (Nat.le_refl _)); replace B2 := Lib.hid (B2.out.trans (hb.mono B2.out.size)); clear hb)
      obtain ⟨po, co, rfl⟩ := strRow_shape OO.out HLEN.out
      clear oo
      clear d0 d1 df0 df1
      (replace L2 := Lib.hid (L2.out.alloc (logO C C.size (.slice po (ss'.length + 1) co))); replace A2 := Lib.hid (A2.out.alloc (logO C C.size (.slice po (ss'.length + 1) co))); replace D2 := Lib.hid (D2.out.alloc (logO C C.size (.slice po (ss'.length + 1) co))); replace E2 := Lib.hid (E2.out.alloc (logO C C.size (.slice po (ss'.length + 1) co))); replace HV := Lib.hid (HV.out.below ((Below.refl (w4).heap.size (w4)).alloc (Nat.le_refl _) (logO C C.size (.slice po (ss'.length + 1) co))) (Nat.le_refl _)); replace OA := Lib.hid (OA.out.below ((Below.refl (w4).heap.size (w4)).alloc (Nat.le_refl _) (logO C C.size (.slice po (ss'.length + 1) co))) (Nat.le_refl _)); replace OB := Lib.hid (OB.out.below ((Below.refl (w4).heap.size (w4)).alloc (Nat.le_refl _) (logO C C.size (.slice po (ss'.length + 1) co))) (Nat.le_refl _)); replace OO := Lib.hid (OO.out.below ((Below.refl (w4).heap.size (w4)).alloc (Nat.le_refl _) (logO C C.size (.slice po (ss'.length + 1) co))) (Nat.le_refl _)); replace B2 := Lib.hid (B2.out.alloc B2.out.size (logO C C.size (.slice po (ss'.length + 1) co))))
      have G2 : Hid (RowAt (w4.alloc (logO C C.size (.slice po (ss'.length + 1) co))) w4.heap.size #[.string C, .int .i64 C.size, .slice po (ss'.length + 1) co] 49) := Lib.hid (RowAt.new _ _ _)
      go_wp2_with fail
      refine (alive13 _).mono ?_
      rintro e w5 ⟨rfl, hb⟩
      (replace L2 := Lib.hid (L2.out.belowS hb); replace A2 := Lib.hid (A2.out.belowS hb); replace D2 := Lib.hid (D2.out.belowS hb); replace E2 := Lib.hid (E2.out.belowS hb); replace G2 := Lib.hid (G2.out.belowS hb); replace HV := Lib.hid (HV.out.below hb (Nat.le_refl _)); replace OA := Lib.hid (OA.out.below hb (Nat.le_refl _)); replace OB := Lib.hid (OB.out.below hb (Nat.le_refl _)); replace OO := Lib.hid (OO.out.below hb (Nat.le_refl _)); replace B2 := Lib.hid (B2.out.trans (hb.mono B2.out.size)); clear hb)
      obtain ⟨l0, l1, l2, lf0, lf1, lf2⟩ := L2.out.c3
      obtain ⟨a0, a1, a2, af0, af1, af2⟩ := A2.out.c3
      obtain ⟨d0, d1, df0, df1⟩ := E2.out.c2
      obtain ⟨g0, g1, g2, gf0, gf1, gf2⟩ := G2.out.c3
      go_wp2_with fail
      refine (rlike_yes _ _ _ _ ts _ OO.out OA.out).mono ?_
      rintro e w6 ⟨rfl, hb⟩
      (replace L2 := Lib.hid (L2.out.belowS hb); replace A2 := Lib.hid (A2.out.belowS hb); replace B2 := Lib.hid (B2.out.trans (hb.mono B2.out.size)); clear hb)
      clear l0 l1 l2 lf0 lf1 lf2
      clear a0 a1 a2 af0 af1 af2
      clear d0 d1 df0 df1
      clear g0 g1 g2 gf0 gf1 gf2
      obtain ⟨l0, l1, l2, lf0, lf1, lf2⟩ := L2.out.c3
      obtain ⟨a0, a1, a2, af0, af1, af2⟩ := A2.out.c3
      go_wp2_with fail
      go_ret
      exact ⟨by simp, B2.out⟩
    · have KA := Lib.hid (fun w hv => wappend_no b' n (.slice p ss'.length cap) ss' R w hv (by omega) (by omega) hok)
      have KB := Lib.hid (fun w hv => wbegin_no b' n (.slice p ss'.length cap) ss' R w hv (by omega) (by omega) hok)
      clear hok
      obtain ⟨a0, a1, a2, af0, af1, af2⟩ := L2.out.c3
      go_wp2_with fail
      refine (KA.out _ HV.out).mono ?_
      rintro e w1 ⟨rfl, hb⟩
      (replace L2 := Lib.hid (L2.out.belowS hb); replace HV := Lib.hid (HV.out.below hb (Nat.le_refl _)); replace B2 := Lib.hid (B2.out.trans (hb.mono B2.out.size)); clear hb)
      clear a0 a1 a2 af0 af1 af2
      (replace L2 := Lib.hid (L2.out.alloc (logO ⟨#[]⟩ 0 (.slice none 0 0))); replace HV := Lib.hid (HV.out.below ((Below.refl (w1).heap.size (w1)).alloc (Nat.le_refl _) (logO ⟨#[]⟩ 0 (.slice none 0 0))) (Nat.le_refl _)); replace B2 := Lib.hid (B2.out.alloc B2.out.size (logO ⟨#[]⟩ 0 (.slice none 0 0))))
      obtain ⟨a0, a1, a2, af0, af1, af2⟩ := L2.out.c3
      go_wp2_with fail
      refine (KB.out _ HV.out).mono ?_
      rintro e w2 ⟨rfl, hb⟩
      (replace L2 := Lib.hid (L2.out.belowS hb); replace HV := Lib.hid (HV.out.below hb (Nat.le_refl _)); replace B2 := Lib.hid (B2.out.trans (hb.mono B2.out.size)); clear hb)
      clear a0 a1 a2 af0 af1 af2
      (replace L2 := Lib.hid (L2.out.alloc (logO ⟨#[]⟩ 0 (.slice none 0 0))); replace HV := Lib.hid (HV.out.below ((Below.refl (w2).heap.size (w2)).alloc (Nat.le_refl _) (logO ⟨#[]⟩ 0 (.slice none 0 0))) (Nat.le_refl _)); replace B2 := Lib.hid (B2.out.alloc B2.out.size (logO ⟨#[]⟩ 0 (.slice none 0 0))))
      go_wp2_with fail
      refine (alive13 _).mono ?_
      rintro e w5 ⟨rfl, hb⟩
      (replace B2 := Lib.hid (B2.out.trans (hb.mono B2.out.size)); clear hb)
      go_wp2_with fail
      go_ret
      exact ⟨rfl, B2.out⟩

theorem walSteps_walk (W : World) (v : Value) (x : ByteArray × Int × List ByteArray) (hx : LogRep W v x) (r : ByteArray) (hr : r.size ≤ maxLen) :
    Calls Try.prog 13 #[v, .string r] W fun e W' => e = .returned (.bool true) ∧ Below W.heap.size W W' := by
  obtain ⟨u, rfl, h1, h2, _⟩ := hx
  unfold maxLen at h2 hr
  exact steps_any _ _ _ _ r W h1.1 h1.2 h2 hr
end Go.Proofs.Ytddeeejfmodgfaa

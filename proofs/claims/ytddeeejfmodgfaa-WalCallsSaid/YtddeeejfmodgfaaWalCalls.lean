/- WalCalls: the walk. -/
import Derived.Test.YtddeeejfmodgfaaWal7
import Derived.Test.YtddeeejfmodgfaaLaterTail
import Derived.Test.YtddeeejfmodgfaaWalRep
import Derived.Deep.RegionWith
import Derived.Deep.DeepCutAuto
namespace Go.Proofs.Ytddeeejfmodgfaa
open Go.RowKit

/-- A log, an error, and how many are sure behind Append. -/
structure BothBegin (b : ByteArray) (n : Int) (v : Value) (ss : List ByteArray) (r : ByteArray) (C : ByteArray) (na nx : Int) (m : Nat) (ts : List ByteArray) (c : Int) : Prop where
  len : ts.length = m
  b1 : ∀ w, StrRow w v ss → Calls Try.prog 39 #[logV b n v, .string r] w fun e w' => ∃ v', e = .returned (.tuple #[logV C na v', .int .i64 c]) ∧ OwnS w' w.heap.size v' ts ∧ Below w.heap.size w w'
  b2 : ∀ w, StrRow w v ss → Calls Try.prog 40 #[logV b n v, .string r] w fun e w' => ∃ v', e = .returned (.tuple #[logV C na v', .int .i64 c]) ∧ OwnS w' w.heap.size v' ts ∧ Below w.heap.size w w'
  a1 : ∀ w, StrRow w v ss → Calls Try.prog 41 #[logV b n v, .string r] w fun e w' => ∃ v', e = .returned (.tuple #[logV C nx v', .int .i64 c]) ∧ OwnS w' w.heap.size v' ts ∧ Below w.heap.size w w'
  a2 : ∀ w, StrRow w v ss → Calls Try.prog 42 #[logV b n v, .string r] w fun e w' => ∃ v', e = .returned (.tuple #[logV C nx v', .int .i64 c]) ∧ OwnS w' w.heap.size v' ts ∧ Below w.heap.size w w'

theorem both_begin (b : ByteArray) (n : Int) (v : Value) (ss : List ByteArray) (r : ByteArray) (hb : b.size ≤ 190000) (hr : r.size ≤ 9223372036854775807) (hn : ss.length ≤ 100) (hsz : ∀ i, (ss.getD i ByteArray.empty).size ≤ 9223372036854775807) :
    ∃ C na nx m ts c, BothBegin b n v ss r C na nx m ts c := by
  by_cases h : LogOk b n ss ∧ 1 ≤ r.size ∧ r.size ≤ 4000
  · exact ⟨_, _, _, _, _, _, rfl, fun w hv => wbegin_yes b n v ss r w hv h.1 h.2 hb (by omega), fun w hv => rbegin_yes b n v ss r w hv h.1 h.2 hb hn, fun w hv => wappend_yes b n v ss r w hv h.1 h.2 hb (by omega), fun w hv => rappend_yes b n v ss r w hv h.1 h.2 hb hn⟩
  · exact ⟨⟨#[]⟩, 0, 0, 0, [], 1, rfl,
      fun w hv => (wbegin_no b n v ss r w hv (by omega) hr h).mono fun _ _ ⟨h1, h2⟩ => ⟨_, h1, OwnS.nil _ _, h2⟩,
      fun w hv => (rbegin_no b n v ss r w hv (by omega) hr hn hsz h).mono fun _ _ ⟨h1, h2⟩ => ⟨_, h1, OwnS.nil _ _, h2⟩,
      fun w hv => (wappend_no b n v ss r w hv (by omega) hr h).mono fun _ _ ⟨h1, h2⟩ => ⟨_, h1, OwnS.nil _ _, h2⟩,
      fun w hv => (rappend_no b n v ss r w hv (by omega) hr hn hsz h).mono fun _ _ ⟨h1, h2⟩ => ⟨_, h1, OwnS.nil _ _, h2⟩⟩

theorem both_right (b : ByteArray) (n : Int) (v : Value) (ss : List ByteArray) (hb : b.size ≤ 190000) (hn : ss.length ≤ 100) (hsz : ∀ i, (ss.getD i ByteArray.empty).size ≤ 9223372036854775807) :
    ∃ t : Bool, (∀ w, StrRow w v ss → Calls Try.prog 44 #[logV b n v] w fun e w' => e = .returned (.bool t) ∧ Below w.heap.size w w') ∧
      (∀ w, StrRow w v ss → Calls Try.prog 45 #[logV b n v] w fun e w' => e = .returned (.bool t) ∧ Below w.heap.size w w') := by
  by_cases h : LogOk b n ss
  · exact ⟨true, fun w hv => wright_yes b n v ss w hv h, fun w hv => rlogRight_yes b n v ss w hv h hn⟩
  · exact ⟨false, fun w hv => wright_no b n v ss w (by omega) hv h, fun w hv => rlogRight_no b n v ss w (by omega) hv h hn hsz⟩

theorem strRow_shape {w : World} {v : Value} {l : List ByteArray} {n : Nat} (h : StrRow w v l) (hn : l.length = n) : ∃ (p : Option Addr) (cap : Nat), v = .slice p n cap := by
  subst hn
  obtain ⟨p, cap, e, _⟩ := strRow_slice h
  exact ⟨p, cap, e⟩

set_option maxRecDepth 100000 in
set_option maxHeartbeats 4000000 in
theorem calls_any (b : ByteArray) (n : Int) (v : Value) (ss : List ByteArray) (r d : ByteArray) (dn : Int) (w : World) (hv : StrRow w v ss) (hz : ∀ i, (ss.getD i ByteArray.empty).size ≤ maxLen) (hb : b.size ≤ 9223372036854775807) (hr : r.size ≤ 9223372036854775807)
    (hd : d.size ≤ 9223372036854775807) :
    Calls Try.prog 12 #[logV b n v, .string r, dev d dn] w fun e w' => e = .returned (.bool true) ∧ Below w.heap.size w w' := by
  obtain ⟨b', p, cap, ss', f1, f2, f3, hv', hf⟩ := few_use b n v ss w hv hz hb
  obtain ⟨m, m1, m2, m3⟩ := minIs_ex 4100 (by omega) r.size
  obtain ⟨k, k1, k2, k3⟩ := minIs_ex 6000 (by omega) d.size
  have HV := Lib.hid hv
  have HV' := Lib.hid hv'
  have KF := Lib.hid hf
  obtain ⟨p0, cap0, rfl, _⟩ := strRow_slice hv
  have L : Hid (RowAt ((w.alloc (logO b n (.slice p0 ss.length cap0))).alloc (devO d dn)) w.heap.size #[.string b, .int .i64 n, .slice p0 ss.length cap0] 49) := Lib.hid ((RowAt.new _ _ _).alloc _)
  have D : Hid (RowAt ((w.alloc (logO b n (.slice p0 ss.length cap0))).alloc (devO d dn)) (w.heap.size + 1) #[.string d, .int .i64 dn] 47) := Lib.hid (RowAt.new' _ _ _ (by simp))
  have B : Hid (Below w.heap.size w ((w.alloc (logO b n (.slice p0 ss.length cap0))).alloc (devO d dn))) := Lib.hid (below_box2 _ _ _)
  clear hv hv' hf hz
  go_enter Try.func12, Try.ntmps12
  obtain ⟨a0, a1, a2, af0, af1, af2⟩ := L.out.c3
  go_upto_region 1 with (fail)
  go_cut [1] (fun s1 wr => s1 = .string (r.extract 0 m) ∧ Hid (RowAt wr w.heap.size #[.string b', .int .i64 n, .slice p ss'.length cap] 49) ∧ Hid (RowAt wr (w.heap.size + 1) #[.string d, .int .i64 dn] 47) ∧ Hid (Below w.heap.size w wr))
  case first =>
    go_region_with (go_at_call 38; refine (KF.out _ (HV.out.below B.out.drew (Nat.le_refl _))).mono ?_; rintro e w1 ⟨rfl, hb1⟩; obtain ⟨e0, e1, e2, g0, g1, g2⟩ := (L.out.drew.belowS hb1).c3)
    all_goals
      go_wp2_with (fail)
      go_meet
      case rel =>
        refine ⟨rfl, Lib.hid ((((L.out.drew.belowS hb1).set 0 _ rfl).set 1 _ rfl).set 2 _ rfl), Lib.hid ((((D.out.drew.belowS hb1).other _ _ (by simp)).other _ _ (by simp)).other _ _ (by simp)), Lib.hid ?_⟩
        exact (((B.out.drew.trans (hb1.mono (by simp; omega))).setCell (p := ⟨w.heap.size, 0, none⟩) (Nat.le_refl _) _).setCell (p := ⟨w.heap.size, 1, none⟩) (Nat.le_refl _) _).setCell (p := ⟨w.heap.size, 2, none⟩) (Nat.le_refl _) _
  case rest =>
    obtain ⟨rfl, L2, D2, B2⟩ := hcut
    clear a0 a1 a2 af0 af1 af2
    have zR : (r.extract 0 m).size ≤ 4100 := by rw [ByteArray.size_extract]; omega
    clear L D B KF m1 m2 m3 hr hb HV
    generalize r.extract 0 m = R at *
    replace L := L2
    clear L2
    obtain ⟨d0, d1, df0, df1⟩ := D2.out.c2
    have x1 := D2.out.lt
    have D : Hid (RowAt (wc.setCell ⟨w.heap.size + 1, 0, none⟩ (.string (d.extract 0 k))) (w.heap.size + 1) #[.string (d.extract 0 k), .int .i64 dn] 47) := Lib.hid (D2.out.set 0 _ rfl)
    replace L : Hid (RowAt (wc.setCell ⟨w.heap.size + 1, 0, none⟩ (.string (d.extract 0 k))) w.heap.size _ _) := Lib.hid (L.out.other _ _ (by simp))
    have B : Hid (Below w.heap.size w (wc.setCell ⟨w.heap.size + 1, 0, none⟩ (.string (d.extract 0 k)))) := Lib.hid (B2.out.setCell (p := ⟨w.heap.size + 1, 0, none⟩) (by simp) _)
    have HV := Lib.hid (HV'.out.below B.out (Nat.le_refl _))
    have zD : (d.extract 0 k).size ≤ 6000 := by rw [ByteArray.size_extract]; omega
    obtain ⟨C, na, nx, mt, ts, c, BB⟩ := both_begin b' n (.slice p ss'.length cap) ss' R (by omega) (by omega) (by omega) f3
    obtain ⟨t, KR1, KR2⟩ := both_right b' n (.slice p ss'.length cap) ss' (by omega) (by omega) f3
    have BB := Lib.hid BB
    have KR1 := Lib.hid KR1
    have KR2 := Lib.hid KR2
    go_upto_region 3 with (fail)
    clear D2 B2 HV' f3 x1
    clear d0 d1 df0 df1
    generalize wc.setCell ⟨w.heap.size + 1, 0, none⟩ (.string (d.extract 0 k)) = W0 at *
    clear k1 k2 k3 hd
    generalize d.extract 0 k = d' at *
    obtain ⟨a0, a1, a2, af0, af1, af2⟩ := L.out.c3
    go_wp2_with fail
    refine (BB.out.b1 _ HV.out).mono ?_
    rintro e w1 ⟨v1, rfl, o1, hb⟩
    have O1 := Lib.hid o1.row
    (replace L := Lib.hid (L.out.belowS hb); replace D := Lib.hid (D.out.belowS hb); replace HV := Lib.hid (HV.out.below hb (Nat.le_refl _)); replace B := Lib.hid (B.out.trans (hb.mono B.out.size)); clear hb)
    obtain ⟨q1, c1, rfl⟩ := strRow_shape O1.out BB.out.len
    clear o1
    clear a0 a1 a2 af0 af1 af2
    (replace L := Lib.hid (L.out.alloc (logO C na (.slice q1 mt c1))); replace D := Lib.hid (D.out.alloc (logO C na (.slice q1 mt c1))); replace HV := Lib.hid (HV.out.below ((Below.refl (w1).heap.size (w1)).alloc (Nat.le_refl _) (logO C na (.slice q1 mt c1))) (Nat.le_refl _)); replace O1 := Lib.hid (O1.out.below ((Below.refl (w1).heap.size (w1)).alloc (Nat.le_refl _) (logO C na (.slice q1 mt c1))) (Nat.le_refl _)); replace B := Lib.hid (B.out.alloc B.out.size (logO C na (.slice q1 mt c1))))
    have A1 : Hid (RowAt (w1.alloc (logO C na (.slice q1 mt c1))) w1.heap.size #[.string C, .int .i64 na, .slice q1 mt c1] 49) := Lib.hid (RowAt.new _ _ _)
    obtain ⟨a0, a1, a2, af0, af1, af2⟩ := L.out.c3
    go_wp2_with fail
    refine (BB.out.b2 _ HV.out).mono ?_
    rintro e w2 ⟨v2, rfl, o2, hb⟩
    have O2 := Lib.hid o2.row
    (replace L := Lib.hid (L.out.belowS hb); replace D := Lib.hid (D.out.belowS hb); replace A1 := Lib.hid (A1.out.belowS hb); replace HV := Lib.hid (HV.out.below hb (Nat.le_refl _)); replace O1 := Lib.hid (O1.out.below hb (Nat.le_refl _)); replace B := Lib.hid (B.out.trans (hb.mono B.out.size)); clear hb)
    obtain ⟨q2, c2, rfl⟩ := strRow_shape O2.out BB.out.len
    clear o2
    clear a0 a1 a2 af0 af1 af2
    (replace L := Lib.hid (L.out.alloc (logO C na (.slice q2 mt c2))); replace D := Lib.hid (D.out.alloc (logO C na (.slice q2 mt c2))); replace A1 := Lib.hid (A1.out.alloc (logO C na (.slice q2 mt c2))); replace HV := Lib.hid (HV.out.below ((Below.refl (w2).heap.size (w2)).alloc (Nat.le_refl _) (logO C na (.slice q2 mt c2))) (Nat.le_refl _)); replace O1 := Lib.hid (O1.out.below ((Below.refl (w2).heap.size (w2)).alloc (Nat.le_refl _) (logO C na (.slice q2 mt c2))) (Nat.le_refl _)); replace O2 := Lib.hid (O2.out.below ((Below.refl (w2).heap.size (w2)).alloc (Nat.le_refl _) (logO C na (.slice q2 mt c2))) (Nat.le_refl _)); replace B := Lib.hid (B.out.alloc B.out.size (logO C na (.slice q2 mt c2))))
    have A2 : Hid (RowAt (w2.alloc (logO C na (.slice q2 mt c2))) w2.heap.size #[.string C, .int .i64 na, .slice q2 mt c2] 49) := Lib.hid (RowAt.new _ _ _)
    obtain ⟨a0, a1, a2, af0, af1, af2⟩ := L.out.c3
    go_wp2_with fail
    refine (BB.out.a1 _ HV.out).mono ?_
    rintro e w3 ⟨v3, rfl, o3, hb⟩
    have O3 := Lib.hid o3.row
    (replace L := Lib.hid (L.out.belowS hb); replace D := Lib.hid (D.out.belowS hb); replace A1 := Lib.hid (A1.out.belowS hb); replace A2 := Lib.hid (A2.out.belowS hb); replace HV := Lib.hid (HV.out.below hb (Nat.le_refl _)); replace O1 := Lib.hid (O1.out.below hb (Nat.le_refl _)); replace O2 := Lib.hid (O2.out.below hb (Nat.le_refl _)); replace B := Lib.hid (B.out.trans (hb.mono B.out.size)); clear hb)
    obtain ⟨q3, c3, rfl⟩ := strRow_shape O3.out BB.out.len
    clear o3
    clear a0 a1 a2 af0 af1 af2
    (replace L := Lib.hid (L.out.alloc (logO C nx (.slice q3 mt c3))); replace D := Lib.hid (D.out.alloc (logO C nx (.slice q3 mt c3))); replace A1 := Lib.hid (A1.out.alloc (logO C nx (.slice q3 mt c3))); replace A2 := Lib.hid (A2.out.alloc (logO C nx (.slice q3 mt c3))); replace HV := Lib.hid (HV.out.below ((Below.refl (w3).heap.size (w3)).alloc (Nat.le_refl _) (logO C nx (.slice q3 mt c3))) (Nat.le_refl _)); replace O1 := Lib.hid (O1.out.below ((Below.refl (w3).heap.size (w3)).alloc (Nat.le_refl _) (logO C nx (.slice q3 mt c3))) (Nat.le_refl _)); replace O2 := Lib.hid (O2.out.below ((Below.refl (w3).heap.size (w3)).alloc (Nat.le_refl _) (logO C nx (.slice q3 mt c3))) (Nat.le_refl _)); replace O3 := Lib.hid (O3.out.below ((Below.refl (w3).heap.size (w3)).alloc (Nat.le_refl _) (logO C nx (.slice q3 mt c3))) (Nat.le_refl _)); replace B := Lib.hid (B.out.alloc B.out.size (logO C nx (.slice q3 mt c3))))
    have A3 : Hid (RowAt (w3.alloc (logO C nx (.slice q3 mt c3))) w3.heap.size #[.string C, .int .i64 nx, .slice q3 mt c3] 49) := Lib.hid (RowAt.new _ _ _)
    obtain ⟨a0, a1, a2, af0, af1, af2⟩ := L.out.c3
    go_wp2_with fail
    refine (BB.out.a2 _ HV.out).mono ?_
    rintro e w4 ⟨v4, rfl, o4, hb⟩
    have O4 := Lib.hid o4.row
    (replace L := Lib.hid (L.out.belowS hb); replace D := Lib.hid (D.out.belowS hb); replace A1 := Lib.hid (A1.out.belowS hb); replace A2 := Lib.hid (A2.out.belowS hb); replace A3 := Lib.hid (A3.out.belowS hb); replace HV := Lib.hid (HV.out.below hb (Nat.le_refl _)); replace O1 := Lib.hid (O1.out.below hb (Nat.le_refl _)); replace O2 := Lib.hid (O2.out.below hb (Nat.le_refl _)); replace O3 := Lib.hid (O3.out.below hb (Nat.le_refl _)); replace B := Lib.hid (B.out.trans (hb.mono B.out.size)); clear hb)
    obtain ⟨q4, c4, rfl⟩ := strRow_shape O4.out BB.out.len
    clear o4
    clear a0 a1 a2 af0 af1 af2
    (replace L := Lib.hid (L.out.alloc (logO C nx (.slice q4 mt c4))); replace D := Lib.hid (D.out.alloc (logO C nx (.slice q4 mt c4))); replace A1 := Lib.hid (A1.out.alloc (logO C nx (.slice q4 mt c4))); replace A2 := Lib.hid (A2.out.alloc (logO C nx (.slice q4 mt c4))); replace A3 := Lib.hid (A3.out.alloc (logO C nx (.slice q4 mt c4))); replace HV := Lib.hid (HV.out.below ((Below.refl (w4).heap.size (w4)).alloc (Nat.le_refl _) (logO C nx (.slice q4 mt c4))) (Nat.le_refl _)); replace O1 := Lib.hid (O1.out.below ((Below.refl (w4).heap.size (w4)).alloc (Nat.le_refl _) (logO C nx (.slice q4 mt c4))) (Nat.le_refl _)); replace O2 := Lib.hid (O2.out.below ((Below.refl (w4).heap.size (w4)).alloc (Nat.le_refl _) (logO C nx (.slice q4 mt c4))) (Nat.le_refl _)); replace O3 := Lib.hid (O3.out.below ((Below.refl (w4).heap.size (w4)).alloc (Nat.le_refl _) (logO C nx (.slice q4 mt c4))) (Nat.le_refl _)); replace O4 := Lib.hid (O4.out.below ((Below.refl (w4).heap.size (w4)).alloc (Nat.le_refl _) (logO C nx (.slice q4 mt c4))) (Nat.le_refl _)); replace B := Lib.hid (B.out.alloc B.out.size (logO C nx (.slice q4 mt c4))))
    have A4 : Hid (RowAt (w4.alloc (logO C nx (.slice q4 mt c4))) w4.heap.size #[.string C, .int .i64 nx, .slice q4 mt c4] 49) := Lib.hid (RowAt.new _ _ _)
    clear BB
    by_cases hdv : (d'.size : Int) ≤ 200000 ∧ 0 ≤ dn ∧ dn ≤ (d'.size : Int)
    · have KO := Lib.hid (fun w => wopen_yes d' dn w hdv.1 hdv.2.1 hdv.2.2)
      have KD := Lib.hid (fun w => rright_yes d' dn w hdv.1 hdv.2.1 hdv.2.2)
      have KP := Lib.hid (fun w => ropen_any d' dn w (by omega))
      clear hdv
      generalize ((scanL (bl d')).1.map mkS) = us at *
      generalize d'.extract 0 (scanL (bl d')).2 = od at *
      generalize ((scanL (bl d')).2 : Int) = on at *
      obtain ⟨a0, a1, af0, af1⟩ := D.out.c2
      go_wp2_with fail
      refine (KO.out _).mono ?_
      rintro e w5 ⟨v5, rfl, o5, hb⟩
      have O5 := Lib.hid o5.row
      (replace L := Lib.hid (L.out.belowS hb); replace D := Lib.hid (D.out.belowS hb); replace A1 := Lib.hid (A1.out.belowS hb); replace A2 := Lib.hid (A2.out.belowS hb); replace A3 := Lib.hid (A3.out.belowS hb); replace A4 := Lib.hid (A4.out.belowS hb); replace HV := Lib.hid (HV.out.below hb (Nat.le_refl _)); replace O1 := Lib.hid (O1.out.below hb (Nat.le_refl _)); replace O2 := Lib.hid (O2.out.below hb (Nat.le_refl _)); replace O3 := Lib.hid (O3.out.below hb (Nat.le_refl _)); replace O4 := Lib.hid (O4.out.below hb (Nat.le_refl _)); replace B := Lib.hid (B.out.trans (hb.mono B.out.size)); clear hb)
      obtain ⟨q5, c5, rfl⟩ := strRow_shape O5.out rfl
      generalize us.length = mu at *
      clear o5
      clear a0 a1 af0 af1
      (replace L := Lib.hid (L.out.alloc (logO od on (.slice q5 mu c5))); replace D := Lib.hid (D.out.alloc (logO od on (.slice q5 mu c5))); replace A1 := Lib.hid (A1.out.alloc (logO od on (.slice q5 mu c5))); replace A2 := Lib.hid (A2.out.alloc (logO od on (.slice q5 mu c5))); replace A3 := Lib.hid (A3.out.alloc (logO od on (.slice q5 mu c5))); replace A4 := Lib.hid (A4.out.alloc (logO od on (.slice q5 mu c5))); replace HV := Lib.hid (HV.out.below ((Below.refl (w5).heap.size (w5)).alloc (Nat.le_refl _) (logO od on (.slice q5 mu c5))) (Nat.le_refl _)); replace O1 := Lib.hid (O1.out.below ((Below.refl (w5).heap.size (w5)).alloc (Nat.le_refl _) (logO od on (.slice q5 mu c5))) (Nat.le_refl _)); replace O2 := Lib.hid (O2.out.below ((Below.refl (w5).heap.size (w5)).alloc (Nat.le_refl _) (logO od on (.slice q5 mu c5))) (Nat.le_refl _)); replace O3 := Lib.hid (O3.out.below ((Below.refl (w5).heap.size (w5)).alloc (Nat.le_refl _) (logO od on (.slice q5 mu c5))) (Nat.le_refl _)); replace O4 := Lib.hid (O4.out.below ((Below.refl (w5).heap.size (w5)).alloc (Nat.le_refl _) (logO od on (.slice q5 mu c5))) (Nat.le_refl _)); replace O5 := Lib.hid (O5.out.below ((Below.refl (w5).heap.size (w5)).alloc (Nat.le_refl _) (logO od on (.slice q5 mu c5))) (Nat.le_refl _)); replace B := Lib.hid (B.out.alloc B.out.size (logO od on (.slice q5 mu c5))))
      have A5 : Hid (RowAt (w5.alloc (logO od on (.slice q5 mu c5))) w5.heap.size #[.string od, .int .i64 on, .slice q5 mu c5] 49) := Lib.hid (RowAt.new _ _ _)
      go_upto_region 8 with (fail)
      generalize w5.alloc (logO od on (.slice q5 mu c5)) = W5 at *
      have HVU := Lib.hid (fun u : Later W5 => HV.out.below u.below (Nat.le_refl _))
      have U1 := Lib.hid (fun u : Later W5 => O1.out.below u.below (Nat.le_refl _))
      have U2 := Lib.hid (fun u : Later W5 => O2.out.below u.below (Nat.le_refl _))
      have U3 := Lib.hid (fun u : Later W5 => O3.out.below u.below (Nat.le_refl _))
      have U4 := Lib.hid (fun u : Later W5 => O4.out.below u.below (Nat.le_refl _))
      obtain ⟨l0, l1, l2⟩ := L.out.l3
      obtain ⟨m10, m11, m12⟩ := A1.out.l3
      obtain ⟨m20, m21, m22⟩ := A2.out.l3
      obtain ⟨m30, m31, m32⟩ := A3.out.l3
      obtain ⟨m40, m41, m42⟩ := A4.out.l3
      (refine region_later mix ?hB ?_; case hB => kernel_rfl); (repeat (first | go_big_quiet_step ((first | (go_at_call 44; with_reducible exact Later.call (KR1.out _ (HVU.out _))) | (go_at_call 45; with_reducible exact Later.call (KR2.out _ (HVU.out _))) | (go_at_call 46; with_reducible exact Later.call (rlike_yes _ _ _ _ ts _ (U1.out _) (U2.out _))) | (go_at_call 46; with_reducible exact Later.call (rlike_yes _ _ _ _ ts _ (U3.out _) (U4.out _))) | (go_at_call 47; with_reducible exact Later.call (wnew_any _)) | (go_at_call 46; exact Later.call (rlike_yes _ _ _ _ [] _ (.inl ⟨rfl, rfl⟩) (.inl ⟨rfl, rfl⟩))) | (go_at_call 48; with_reducible exact Later.call (alive13 _)))) | quiet_step ((first | (go_at_call 44; with_reducible exact Later.call (KR1.out _ (HVU.out _))) | (go_at_call 45; with_reducible exact Later.call (KR2.out _ (HVU.out _))) | (go_at_call 46; with_reducible exact Later.call (rlike_yes _ _ _ _ ts _ (U1.out _) (U2.out _))) | (go_at_call 46; with_reducible exact Later.call (rlike_yes _ _ _ _ ts _ (U3.out _) (U4.out _))) | (go_at_call 47; with_reducible exact Later.call (wnew_any _)) | (go_at_call 46; exact Later.call (rlike_yes _ _ _ _ [] _ (.inl ⟨rfl, rfl⟩) (.inl ⟨rfl, rfl⟩))) | (go_at_call 48; with_reducible exact Later.call (alive13 _)))))); (refine wpQuiet_nil ?_; rintro _ ⟨u, rfl⟩)
      replace D := Lib.hid (D.out.later u)
      replace A5 := Lib.hid (A5.out.later u)
      replace O5 := Lib.hid (O5.out.below u.below (Nat.le_refl _))
      replace B := Lib.hid (B.out.trans (u.below.mono B.out.size))
      generalize u.w = W6 at *
      clear l0 l1 l2 m10 m11 m12 m20 m21 m22 m30 m31 m32 m40 m41 m42 HVU U1 U2 U3 U4 L A1 A2 A3 A4 HV O1 O2 O3 O4 u KR1 KR2
      obtain ⟨a0, a1, af0, af1⟩ := D.out.c2
      go_wp2_with fail
      refine (KD.out _).mono ?_
      rintro e w7 ⟨rfl, hb⟩
      (replace D := Lib.hid (D.out.belowS hb); replace A5 := Lib.hid (A5.out.belowS hb); replace O5 := Lib.hid (O5.out.below hb (Nat.le_refl _)); replace B := Lib.hid (B.out.trans (hb.mono B.out.size)); clear hb)
      clear a0 a1 af0 af1
      go_wp2_with fail
      obtain ⟨a0, a1, af0, af1⟩ := D.out.c2
      obtain ⟨g0, g1, g2, gf0, gf1, gf2⟩ := A5.out.c3
      go_region_with (first
        | (go_at_call 50; refine (KP.out _).mono ?_; rintro e wN ⟨v7, rfl, o7, hbN⟩; obtain ⟨x0, x1, x2, y0, y1, y2⟩ := (A5.out.drew.belowS hbN).c3; have O6 := O5.out.below (Below.refl w7.heap.size w7).drew (Nat.le_refl _); have O7 := Lib.hid (O6.below hbN (Nat.le_refl _)); have HO7 := Lib.hid o7.row; have B7 := Lib.hid (B.out.drew.trans (hbN.mono B.out.size)))
        | (go_at_call 46; refine (rlike_yes _ _ _ _ us _ O7.out HO7.out).mono ?_; rintro e wM ⟨rfl, hbM⟩))
      all_goals
        go_wp2
        go_ret
        exact ⟨rfl, B7.out.trans (hbM.mono B7.out.size)⟩
    · have KO := Lib.hid (fun w => wopen_no d' dn w (by omega) (by omega))
      have KD := Lib.hid (fun w => rright_no d' dn w (by omega) (by omega))
      clear hdv
      obtain ⟨a0, a1, af0, af1⟩ := D.out.c2
      go_wp2_with fail
      refine (KO.out _).mono ?_
      rintro e w5 ⟨rfl, hb⟩
      (replace L := Lib.hid (L.out.belowS hb); replace D := Lib.hid (D.out.belowS hb); replace A1 := Lib.hid (A1.out.belowS hb); replace A2 := Lib.hid (A2.out.belowS hb); replace A3 := Lib.hid (A3.out.belowS hb); replace A4 := Lib.hid (A4.out.belowS hb); replace HV := Lib.hid (HV.out.below hb (Nat.le_refl _)); replace O1 := Lib.hid (O1.out.below hb (Nat.le_refl _)); replace O2 := Lib.hid (O2.out.below hb (Nat.le_refl _)); replace O3 := Lib.hid (O3.out.below hb (Nat.le_refl _)); replace O4 := Lib.hid (O4.out.below hb (Nat.le_refl _)); replace B := Lib.hid (B.out.trans (hb.mono B.out.size)); clear hb)
      clear a0 a1 af0 af1
      (replace L := Lib.hid (L.out.alloc (logO ⟨#[]⟩ 0 (.slice none 0 0))); replace D := Lib.hid (D.out.alloc (logO ⟨#[]⟩ 0 (.slice none 0 0))); replace A1 := Lib.hid (A1.out.alloc (logO ⟨#[]⟩ 0 (.slice none 0 0))); replace A2 := Lib.hid (A2.out.alloc (logO ⟨#[]⟩ 0 (.slice none 0 0))); replace A3 := Lib.hid (A3.out.alloc (logO ⟨#[]⟩ 0 (.slice none 0 0))); replace A4 := Lib.hid (A4.out.alloc (logO ⟨#[]⟩ 0 (.slice none 0 0))); replace HV := Lib.hid (HV.out.below ((Below.refl (w5).heap.size (w5)).alloc (Nat.le_refl _) (logO ⟨#[]⟩ 0 (.slice none 0 0))) (Nat.le_refl _)); replace O1 := Lib.hid (O1.out.below ((Below.refl (w5).heap.size (w5)).alloc (Nat.le_refl _) (logO ⟨#[]⟩ 0 (.slice none 0 0))) (Nat.le_refl _)); replace O2 := Lib.hid (O2.out.below ((Below.refl (w5).heap.size (w5)).alloc (Nat.le_refl _) (logO ⟨#[]⟩ 0 (.slice none 0 0))) (Nat.le_refl _)); replace O3 := Lib.hid (O3.out.below ((Below.refl (w5).heap.size (w5)).alloc (Nat.le_refl _) (logO ⟨#[]⟩ 0 (.slice none 0 0))) (Nat.le_refl _)); replace O4 := Lib.hid (O4.out.below ((Below.refl (w5).heap.size (w5)).alloc (Nat.le_refl _) (logO ⟨#[]⟩ 0 (.slice none 0 0))) (Nat.le_refl _)); replace B := Lib.hid (B.out.alloc B.out.size (logO ⟨#[]⟩ 0 (.slice none 0 0))))
      have A5 : Hid (RowAt (w5.alloc (logO ⟨#[]⟩ 0 (.slice none 0 0))) w5.heap.size #[.string ⟨#[]⟩, .int .i64 0, .slice none 0 0] 49) := Lib.hid (RowAt.new _ _ _)
      go_upto_region 8 with (fail)
      generalize w5.alloc (logO ⟨#[]⟩ 0 (.slice none 0 0)) = W5 at *
      have HVU := Lib.hid (fun u : Later W5 => HV.out.below u.below (Nat.le_refl _))
      have U1 := Lib.hid (fun u : Later W5 => O1.out.below u.below (Nat.le_refl _))
      have U2 := Lib.hid (fun u : Later W5 => O2.out.below u.below (Nat.le_refl _))
      have U3 := Lib.hid (fun u : Later W5 => O3.out.below u.below (Nat.le_refl _))
      have U4 := Lib.hid (fun u : Later W5 => O4.out.below u.below (Nat.le_refl _))
      obtain ⟨l0, l1, l2⟩ := L.out.l3
      obtain ⟨m10, m11, m12⟩ := A1.out.l3
      obtain ⟨m20, m21, m22⟩ := A2.out.l3
      obtain ⟨m30, m31, m32⟩ := A3.out.l3
      obtain ⟨m40, m41, m42⟩ := A4.out.l3
      (refine region_later mix ?hB ?_; case hB => kernel_rfl); (repeat (first | go_big_quiet_step ((first | (go_at_call 44; with_reducible exact Later.call (KR1.out _ (HVU.out _))) | (go_at_call 45; with_reducible exact Later.call (KR2.out _ (HVU.out _))) | (go_at_call 46; with_reducible exact Later.call (rlike_yes _ _ _ _ ts _ (U1.out _) (U2.out _))) | (go_at_call 46; with_reducible exact Later.call (rlike_yes _ _ _ _ ts _ (U3.out _) (U4.out _))) | (go_at_call 47; with_reducible exact Later.call (wnew_any _)) | (go_at_call 46; exact Later.call (rlike_yes _ _ _ _ [] _ (.inl ⟨rfl, rfl⟩) (.inl ⟨rfl, rfl⟩))) | (go_at_call 48; with_reducible exact Later.call (alive13 _)))) | quiet_step ((first | (go_at_call 44; with_reducible exact Later.call (KR1.out _ (HVU.out _))) | (go_at_call 45; with_reducible exact Later.call (KR2.out _ (HVU.out _))) | (go_at_call 46; with_reducible exact Later.call (rlike_yes _ _ _ _ ts _ (U1.out _) (U2.out _))) | (go_at_call 46; with_reducible exact Later.call (rlike_yes _ _ _ _ ts _ (U3.out _) (U4.out _))) | (go_at_call 47; with_reducible exact Later.call (wnew_any _)) | (go_at_call 46; exact Later.call (rlike_yes _ _ _ _ [] _ (.inl ⟨rfl, rfl⟩) (.inl ⟨rfl, rfl⟩))) | (go_at_call 48; with_reducible exact Later.call (alive13 _)))))); (refine wpQuiet_nil ?_; rintro _ ⟨u, rfl⟩)
      replace D := Lib.hid (D.out.later u)
      replace A5 := Lib.hid (A5.out.later u)
      replace B := Lib.hid (B.out.trans (u.below.mono B.out.size))
      generalize u.w = W6 at *
      clear l0 l1 l2 m10 m11 m12 m20 m21 m22 m30 m31 m32 m40 m41 m42 HVU U1 U2 U3 U4 L A1 A2 A3 A4 HV O1 O2 O3 O4 u KR1 KR2
      obtain ⟨a0, a1, af0, af1⟩ := D.out.c2
      go_wp2_with fail
      refine (KD.out _).mono ?_
      rintro e w7 ⟨rfl, hb⟩
      (replace A5 := Lib.hid (A5.out.belowS hb); replace B := Lib.hid (B.out.trans (hb.mono B.out.size)); clear hb)
      clear a0 a1 af0 af1
      obtain ⟨g0, g1, g2, gf0, gf1, gf2⟩ := A5.out.c3
      go_wp2_with fail
      refine (rlike_yes _ _ _ _ [] _ (.inl ⟨rfl, rfl⟩) (.inl ⟨rfl, rfl⟩)).mono ?_
      rintro e w8 ⟨rfl, hb⟩
      (replace B := Lib.hid (B.out.trans (hb.mono B.out.size)); clear hb)
      go_wp2_with fail
      go_ret
      exact ⟨rfl, B.out⟩

theorem walCalls_walk (W : World) (v : Value) (x : ByteArray × Int × List ByteArray) (hx : LogRep W v x) (r : ByteArray) (hr : r.size ≤ maxLen) (dv : Value) (y : ByteArray × Int) (hy : DevRep W dv y) :
    Calls Try.prog 12 #[v, .string r, dv] W fun e W' => e = .returned (.bool true) ∧ Below W.heap.size W W' := by
  obtain ⟨u, rfl, h1, h2, _⟩ := hx
  obtain ⟨rfl, g1, _⟩ := hy
  unfold maxLen at h2 hr g1
  exact calls_any _ _ _ _ r _ _ W h1.1 h1.2 h2 hr g1
end Go.Proofs.Ytddeeejfmodgfaa

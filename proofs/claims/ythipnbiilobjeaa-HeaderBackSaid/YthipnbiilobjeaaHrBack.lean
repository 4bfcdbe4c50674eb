/- Header: HeaderBack walked. -/
import Derived.Test.YthipnbiilobjeaaHrd
import Derived.Deep.RegionWith
import Derived.Deep.DeepCutAuto
namespace Go.Proofs.Ythipnbiilobjeaa
open Go.RowKit Go.Shelf
set_option maxRecDepth 100000

theorem hread_any (s : ByteArray) (w : World) (hs : s.size ≤ 4100) : Calls Try.prog 36 #[.string s] w (HReadPost (readH (bl s)) w) := by
  by_cases e : (readF hform (bl s)).2 = 0
  · have hr : readF hform (bl s) = ((readF hform (bl s)).1, 0) := by rw [← e]
    obtain ⟨x, hx, ho⟩ := raw_of hr
    have : readH (bl s) = seenH x := by
      unfold readH
      rw [if_pos e, hx, rawL_rawF]
    rw [this]
    exact hread_good s w hs x (by rw [← hx]; exact hr) ho
  · have : readH (bl s) = (zHd, 4) := by
      unfold readH
      rw [if_neg e]
    rw [this]
    exact hread_bad s w hs e
theorem fewB_num {h : Hd} (a : HdNum h) : HdNum (fewD h) := a
theorem fewB_len (h : Hd) : (fewD h).val.length ≤ 1000000 := by
  unfold fewD
  simp only [List.length_map, List.length_take]
  omega
/-- A box that holds a header. -/
def HBoxB (w : World) (b : Nat) (h : Hd) : Prop := ∃ (pv : Option Addr) (cv : Nat) (pg : Option Addr) (cg : Nat), RowAt w b (hdc h (.slice pv h.val.length cv) (.slice pg h.se.length cg)) 36 ∧ HdAt w h (.slice pv h.val.length cv) (.slice pg h.se.length cg)
theorem hdOk_size {h : Hd} (hk : HdOk h) (hn : HdNum h) : (recL h).1.length ≤ 4000 := write_size (show (writeF hform (hdF h)).2 = 0 from by have := (rec_ok hk hn).1; rw [show writeF hform (hdF h) = recL h from rfl, this])

theorem bytesB_of {h : Hd} {b : Bool} (e : hdL h = b) (hn : HdNum h) : bytesL h = if b = true then ((recL h).1, 0) else ([], 1) := by
  subst e
  cases e : hdL h with
  | false => unfold bytesL; rw [e]; rfl
  | true =>
    rw [if_pos rfl, bytesL_ok (hdOk_of e) hn, (rec_ok (hdOk_of e) hn).1]
set_option maxHeartbeats 8000000 in
theorem headerBack_walk (w : World) (v1 : Value) (h : Hd) (r1 : HdRep w v1 h) (s : ByteArray) (hsz0 : s.size ≤ maxLen) :
    Calls Try.prog 10 #[v1, .string s] w fun e w' => e = .returned (.bool true) ∧ Below w.heap.size w w' := by
  obtain ⟨sv, gv, rfl, hh, hn, hz, hvs⟩ := r1
  have K1 : Hid (∀ W, Below w.heap.size w W → Calls Try.prog 16 #[.agg (hdc h sv gv)] W (FewPost2 w (fewD h) W)) := Lib.hid (fun W hb => fewD_any h sv gv W hz w hb hh hvs)
  have R1 := Lib.hid (RowAt.new w (hdc h sv gv) 36)
  have HB := Lib.hid (bel1 w (.cells (hdc h sv gv) 36))
  have N1 : Hid (HdNum (fewD h)) := Lib.hid (fewB_num hn)
  have L1 : Hid ((fewD h).val.length ≤ 1000000) := Lib.hid (fewB_len h)
  have KA := Lib.hid (fun W => halive_any W)
  obtain ⟨t, ht⟩ : ∃ t, t = s.extract 0 (min s.size 3000) := ⟨_, rfl⟩
  have htz : t.size ≤ 3000 := by rw [ht, ByteArray.size_extract]; omega
  obtain ⟨m, hm⟩ : ∃ m, m = min s.size 3000 := ⟨_, rfl⟩
  rw [← hm] at ht
  have m4 : min (s.size : Int) 3000 = m := by omega
  have hms : m ≤ s.size := by omega
  have KT := Lib.hid (fun W => hread_any t W (by omega))
  have HT := Lib.hid ht
  have ht2 : s.extract 0 m = t := ht.symm
  have hsz := hsz0
  unfold maxLen at hsz
  clear hh hn hz hvs ht hm htz
  generalize fewD h = fh at *
  obtain ⟨pa, ht, ro, tx, pr, va, val, vo, ad, rd, se⟩ := h
  obtain ⟨fpa, fht, fro, ftx, fpr, fva, fval, fvo, fad, frd, fse⟩ := fh
  dsimp only [hdc] at K1
  go_enter Try.func10, Try.ntmps10
  go_upto_region 1 with (fail)
  generalize w.alloc (.cells (hdc _ sv gv) 36) = W at *
  replace R1 := Lib.hid R1.out.drew
  have HBc := Lib.hid HB.out.drew
  obtain ⟨x0, x1, x2, x3, x4, x5, x6, x7, x8, x9, x10⟩ := R1.out.c11
  obtain ⟨xf0, xf1, xf2, xf3, xf4, xf5, xf6, xf7, xf8, xf9, xf10⟩ := R1.out.f11
  go_cut [1, 4] (fun u t' wr => u = .string t ∧ t' = .bool false ∧ ∃ w9, w9 = wr ∧ Hid (HBoxB w9 w.heap.size ⟨fpa, fht, fro, ftx, fpr, fva, fval, fvo, fad, frd, fse⟩ ∧ Below w.heap.size w w9))
  case first =>
    go_region_with (go_at_call 16; ((with_reducible refine (K1.out _ HBc.out).mono ?_); rintro e w1 ⟨sa1, ga1, rfl, ho1, hg1, hs1, hb⟩; obtain ⟨ps1, cs1, rfl, -, -⟩ := RowE.shape encS (OwnE.row encS ho1); obtain ⟨pg1, cg1, rfl, -, -⟩ := RowE.shape encG hg1; have HO1 := Lib.hid ho1; have HZ1 := Lib.hid R1.out.lt; have HG1 := Lib.hid (And.intro hg1 hs1); have HBc := Lib.hid (HBc.out.trans (hb.mono HBc.out.size)); have R1 := Lib.hid (R1.out.belowS hb); clear hb ho1 hg1 hs1; clear x0 x1 x2 x3 x4 x5 x6 x7 x8 x9 x10 xf0 xf1 xf2 xf3 xf4 xf5 xf6 xf7 xf8 xf9 xf10; obtain ⟨x0, x1, x2, x3, x4, x5, x6, x7, x8, x9, x10⟩ := R1.out.c11; obtain ⟨xf0, xf1, xf2, xf3, xf4, xf5, xf6, xf7, xf8, xf9, xf10⟩ := R1.out.f11))
    all_goals
      go_wp2
      go_meet
      case rel =>
        have hz1 := HZ1.out
        refine ⟨rfl, rfl, _, rfl, Lib.hid ⟨⟨ps1, cs1, pg1, cg1, RowAt.set11 R1.out _ _ _ _ _ _ _ _ _ _ _, OwnE.row encS (OwnE.setLow11 HO1.out (by omega)), RowE.below encG HG1.out.1 (below_set11 HBc.out (by omega) _ _ _ _ _ _ _ _ _ _ _) (Nat.le_refl _), HG1.out.2⟩, below_set11 HBc.out (by omega) _ _ _ _ _ _ _ _ _ _ _⟩⟩
  case rest =>
  obtain ⟨rfl, rfl, W2, rfl, hcut⟩ := hcut
  clear K1 R1 HBc HB x0 x1 x2 x3 x4 x5 x6 x7 x8 x9 x10 xf0 xf1 xf2 xf3 xf4 xf5 xf6 xf7 xf8 xf9 xf10
  obtain ⟨⟨pv1, cv1, pg1, cg1, hr1, ha1⟩, hbw⟩ := hcut.out
  clear hcut
  clear m4 hms ht2 HT
  have R1 := Lib.hid hr1
  have HB2 := Lib.hid hbw
  have HA1 := Lib.hid ha1
  have HB := Lib.hid (Below.refl W2.heap.size W2)
  clear hr1 hbw ha1
  have HLT := Lib.hid R1.out.lt
  have KB1 := Lib.hid (fun W (hb : Below W2.heap.size W2 W) => bytes_any _ _ _ W (HA1.out.below hb) N1.out L1.out)
  have RK0 : Hid ((readH (bl t)).2 ≠ 0 → readH (bl t) = (zHd, 4)) := Lib.hid readH_bad
  have RK1 : Hid ((readH (bl t)).2 = 0 → HdOk (readH (bl t)).1 ∧ HdNum (readH (bl t)).1 ∧ (∀ g ∈ (readH (bl t)).1.se, g.ok) ∧ recL (readH (bl t)).1 = (bl t, 0)) := Lib.hid readH_ok
  have B1 : Hid (∀ b, hdL ⟨fpa, fht, fro, ftx, fpr, fva, fval, fvo, fad, frd, fse⟩ = b → bytesL ⟨fpa, fht, fro, ftx, fpr, fva, fval, fvo, fad, frd, fse⟩ = if b = true then ((recL ⟨fpa, fht, fro, ftx, fpr, fva, fval, fvo, fad, frd, fse⟩).1, 0) else ([], 1)) := Lib.hid (fun b e => bytesB_of e N1.out)
  have KR1 : Hid (hdL ⟨fpa, fht, fro, ftx, fpr, fva, fval, fvo, fad, frd, fse⟩ = true → ∀ W, Calls Try.prog 36 #[.string (mkS (recL ⟨fpa, fht, fro, ftx, fpr, fva, fval, fvo, fad, frd, fse⟩).1)] W (HReadPost (⟨fpa, fht, fro, ftx, fpr, fva, fval, fvo, fad, frd, fse⟩, 0) W)) := Lib.hid (fun e W => by
    have hk := hdOk_of e
    have := hread_any (mkS (recL ⟨fpa, fht, fro, ftx, fpr, fva, fval, fvo, fad, frd, fse⟩).1) W (by rw [mk_size]; have := hdOk_size hk N1.out; omega)
    rw [bl_mk, readH_rec hk N1.out HA1.out.2.2] at this
    exact this)
  generalize readH (bl t) = rk at *
  obtain ⟨⟨kpa, kht, kro, ktx, kpr, kva, kval, kvo, kad, krd, kse⟩, e2⟩ := rk
  obtain ⟨x0, x1, x2, x3, x4, x5, x6, x7, x8, x9, x10⟩ := R1.out.c11
  cases b1 : hdL ⟨fpa, fht, fro, ftx, fpr, fva, fval, fvo, fad, frd, fse⟩ with
  | false =>
    have KB := Lib.hid (fun W hb => Eq.mp (congrArg (fun r => Calls Try.prog 17 #[.agg (hdc ⟨fpa, fht, fro, ftx, fpr, fva, fval, fvo, fad, frd, fse⟩ (.slice pv1 fval.length cv1) (.slice pg1 fse.length cg1))] W fun e w' => e = .returned (.tuple #[.string (mkS r.1), .int .i64 r.2]) ∧ Below W.heap.size W w') (B1.out _ b1)) (KB1.out W hb))
    simp only [Bool.false_eq_true, if_false] at KB
    dsimp only [hdc] at KB
    clear B1 KB1 KR1 b1
    go_upto_region 7 with (go_at_call 17; ((with_reducible refine (KB.out _ HB.out).mono ?_); rintro e4 w4 ⟨rfl, hb⟩; replace HB := Lib.hid (HB.out.trans (hb.mono HB.out.size));  clear hb x0 x1 x2 x3 x4 x5 x6 x7 x8 x9 x10))
    clear KB
    go_upto_region 8 with (go_at_call 36; ((with_reducible refine (KT.out _).mono ?_); rintro e5 w5 ⟨sv2, gv2, rfl, hk2, hb⟩; dsimp only [hdc] at hk2 ⊢; obtain ⟨ps2, cs2, rfl, -, -⟩ := RowE.shape encS hk2.1; obtain ⟨pg2, cg2, rfl, -, -⟩ := RowE.shape encG hk2.2.1; replace HB := Lib.hid (HB.out.trans (hb.mono HB.out.size));  have HK := Lib.hid hk2; clear hb hk2))
    clear KT
    have HBA := bel1 w5 (.cells (hdc ⟨kpa, kht, kro, ktx, kpr, kva, kval, kvo, kad, krd, kse⟩ (.slice ps2 kval.length cs2) (.slice pg2 kse.length cg2)) 36)
    have RK := Lib.hid (RowAt.new w5 (hdc ⟨kpa, kht, kro, ktx, kpr, kva, kval, kvo, kad, krd, kse⟩ (.slice ps2 kval.length cs2) (.slice pg2 kse.length cg2)) 36)
    replace HK := Lib.hid (HK.out.below HBA)
    replace HB := Lib.hid (HB.out.trans (HBA.mono HB.out.size))
    clear HBA
    generalize w5.alloc (.cells (hdc ⟨kpa, kht, kro, ktx, kpr, kva, kval, kvo, kad, krd, kse⟩ (.slice ps2 kval.length cs2) (.slice pg2 kse.length cg2)) 36) = W8 at *
    have HW := Lib.hid (Below.refl W8.heap.size W8)
    obtain ⟨y0, y1, y2, y3, y4, y5, y6, y7, y8, y9, y10⟩ := RK.out.c11
    by_cases he : e2 = 0
    · subst he
      obtain ⟨hk, hn2, ho2, hrec⟩ := RK1.out rfl
      have hbL := bytesB_of (hdL_true hk) hn2
      rw [if_pos rfl, hrec] at hbL
      have hkl : kval.length ≤ 1000000 := by have := hk.2.2.2.2.2.1.2.2; simp only at this; omega
      have KB2 := Lib.hid (fun W (hb : Below W8.heap.size W8 W) => bytes_any ⟨kpa, kht, kro, ktx, kpr, kva, kval, kvo, kad, krd, kse⟩ _ _ W (HK.out.below hb) hn2 hkl)
      have KR2 := Lib.hid (fun W (hb : Below W8.heap.size W8 W) => hRight_any ⟨kpa, kht, kro, ktx, kpr, kva, kval, kvo, kad, krd, kse⟩ _ _ W (HK.out.below hb) hkl)
      rw [hbL] at KB2
      rw [hdL_true hk] at KR2
      simp only [mkS_bl] at KB2
      dsimp only [hdc, hdV] at KB2 KR2
      clear hk hn2 ho2 hrec hbL hkl RK0 RK1
      go_wp2_with (first
        | (go_at_call 17; ((with_reducible refine (KB2.out _ HW.out).mono ?_); rintro e9 w9 ⟨rfl, hb⟩; replace HB := Lib.hid (HB.out.trans (hb.mono HB.out.size));  replace HW := Lib.hid (HW.out.trans (hb.mono HW.out.size)); replace RK := Lib.hid (RK.out.belowS hb); clear hb y0 y1 y2 y3 y4 y5 y6 y7 y8 y9 y10; obtain ⟨y0, y1, y2, y3, y4, y5, y6, y7, y8, y9, y10⟩ := RK.out.c11))
        | (go_at_call 18; ((with_reducible refine (KA.out _).mono ?_); rintro e9 w9 ⟨rfl, hb⟩; replace HB := Lib.hid (HB.out.trans (hb.mono HB.out.size));  replace HW := Lib.hid (HW.out.trans (hb.mono HW.out.size)); replace RK := Lib.hid (RK.out.belowS hb); clear hb y0 y1 y2 y3 y4 y5 y6 y7 y8 y9 y10; obtain ⟨y0, y1, y2, y3, y4, y5, y6, y7, y8, y9, y10⟩ := RK.out.c11))
        | (go_at_call 23; ((with_reducible refine (KR2.out _ HW.out).mono ?_); rintro e9 w9 ⟨rfl, hb⟩; replace HB := Lib.hid (HB.out.trans (hb.mono HB.out.size));  replace HW := Lib.hid (HW.out.trans (hb.mono HW.out.size)); replace RK := Lib.hid (RK.out.belowS hb); clear hb y0 y1 y2 y3 y4 y5 y6 y7 y8 y9 y10; obtain ⟨y0, y1, y2, y3, y4, y5, y6, y7, y8, y9, y10⟩ := RK.out.c11)))
      go_ret
      exact ⟨rfl, HB2.out.trans (HB.out.mono HB2.out.size)⟩
    · have hz := RK0.out he
      injection hz with h1 h2
      subst h2
      have KL := Lib.hid (fun W (hb : Below W8.heap.size W8 W) => hlike_any ⟨kpa, kht, kro, ktx, kpr, kva, kval, kvo, kad, krd, kse⟩ zHd _ _ _ _ W (HK.out.below hb) (zHd_at W))
      rw [likeH_yes h1] at KL
      dsimp only [hdc, zHd] at KL
      clear RK0 RK1 h1 he
      go_wp2_with (first
        | (go_at_call 18; ((with_reducible refine (KA.out _).mono ?_); rintro e9 w9 ⟨rfl, hb⟩; replace HB := Lib.hid (HB.out.trans (hb.mono HB.out.size));  replace HW := Lib.hid (HW.out.trans (hb.mono HW.out.size)); replace RK := Lib.hid (RK.out.belowS hb); clear hb y0 y1 y2 y3 y4 y5 y6 y7 y8 y9 y10; obtain ⟨y0, y1, y2, y3, y4, y5, y6, y7, y8, y9, y10⟩ := RK.out.c11))
        | (go_at_call 19; ((with_reducible refine (KL.out _ HW.out).mono ?_); rintro e9 w9 ⟨rfl, hb⟩; replace HB := Lib.hid (HB.out.trans (hb.mono HB.out.size));  replace HW := Lib.hid (HW.out.trans (hb.mono HW.out.size)); replace RK := Lib.hid (RK.out.belowS hb); clear hb y0 y1 y2 y3 y4 y5 y6 y7 y8 y9 y10; obtain ⟨y0, y1, y2, y3, y4, y5, y6, y7, y8, y9, y10⟩ := RK.out.c11)))
      go_ret
      exact ⟨rfl, HB2.out.trans (HB.out.mono HB2.out.size)⟩
  | true =>
    have KB := Lib.hid (fun W hb => Eq.mp (congrArg (fun r => Calls Try.prog 17 #[.agg (hdc ⟨fpa, fht, fro, ftx, fpr, fva, fval, fvo, fad, frd, fse⟩ (.slice pv1 fval.length cv1) (.slice pg1 fse.length cg1))] W fun e w' => e = .returned (.tuple #[.string (mkS r.1), .int .i64 r.2]) ∧ Below W.heap.size W w') (B1.out _ b1)) (KB1.out W hb))
    have KR := Lib.hid (KR1.out b1)
    simp only [if_true] at KB
    dsimp only [hdc] at KB
    clear B1 KB1 KR1 b1
    generalize mkS (recL ⟨fpa, fht, fro, ftx, fpr, fva, fval, fvo, fad, frd, fse⟩).1 = B at *
    go_upto_region 5 with (first
      | (go_at_call 17; ((with_reducible refine (KB.out _ HB.out).mono ?_); rintro e4 w4 ⟨rfl, hb⟩; replace HB := Lib.hid (HB.out.trans (hb.mono HB.out.size));  replace R1 := Lib.hid (R1.out.belowS hb); clear hb x0 x1 x2 x3 x4 x5 x6 x7 x8 x9 x10))
      | (go_at_call 36; ((with_reducible refine (KR.out _).mono ?_); rintro e5 w5 ⟨sv2, gv2, rfl, hk2, hb⟩; dsimp only [hdc] at hk2 ⊢; obtain ⟨ps2, cs2, rfl, -, -⟩ := RowE.shape encS hk2.1; obtain ⟨pg2, cg2, rfl, -, -⟩ := RowE.shape encG hk2.2.1; replace HB := Lib.hid (HB.out.trans (hb.mono HB.out.size));  replace R1 := Lib.hid (R1.out.belowS hb); have HK := Lib.hid hk2; clear hb hk2)))
    have HBA := bel1 w5 (.cells (hdc ⟨fpa, fht, fro, ftx, fpr, fva, fval, fvo, fad, frd, fse⟩ (.slice ps2 fval.length cs2) (.slice pg2 fse.length cg2)) 36)
    have RF := Lib.hid (RowAt.new w5 (hdc ⟨fpa, fht, fro, ftx, fpr, fva, fval, fvo, fad, frd, fse⟩ (.slice ps2 fval.length cs2) (.slice pg2 fse.length cg2)) 36)
    replace R1 := Lib.hid (R1.out.belowS HBA)
    replace HK := Lib.hid (HK.out.below HBA)
    replace HB := Lib.hid (HB.out.trans (HBA.mono HB.out.size))
    clear HBA KR KB
    generalize w5.alloc (.cells (hdc ⟨fpa, fht, fro, ftx, fpr, fva, fval, fvo, fad, frd, fse⟩ (.slice ps2 fval.length cs2) (.slice pg2 fse.length cg2)) 36) = W6 at *
    have KL := Lib.hid (hlike_any ⟨fpa, fht, fro, ftx, fpr, fva, fval, fvo, fad, frd, fse⟩ ⟨fpa, fht, fro, ftx, fpr, fva, fval, fvo, fad, frd, fse⟩ _ _ _ _ W6 (HA1.out.below HB.out) HK.out)
    rw [likeH_yes rfl] at KL
    dsimp only [hdc] at KL
    obtain ⟨x0, x1, x2, x3, x4, x5, x6, x7, x8, x9, x10⟩ := R1.out.c11
    obtain ⟨y0, y1, y2, y3, y4, y5, y6, y7, y8, y9, y10⟩ := RF.out.c11
    go_upto_region 7 with (go_at_call 19; ((with_reducible refine (KL.out).mono ?_); rintro e7 w7 ⟨rfl, hb⟩; replace HB := Lib.hid (HB.out.trans (hb.mono HB.out.size));  clear hb x0 x1 x2 x3 x4 x5 x6 x7 x8 x9 x10 y0 y1 y2 y3 y4 y5 y6 y7 y8 y9 y10))
    clear KL RF R1 HK
    go_upto_region 8 with (go_at_call 36; ((with_reducible refine (KT.out _).mono ?_); rintro e5 w5 ⟨sv2, gv2, rfl, hk2, hb⟩; dsimp only [hdc] at hk2 ⊢; obtain ⟨ps2, cs2, rfl, -, -⟩ := RowE.shape encS hk2.1; obtain ⟨pg2, cg2, rfl, -, -⟩ := RowE.shape encG hk2.2.1; replace HB := Lib.hid (HB.out.trans (hb.mono HB.out.size));  have HK := Lib.hid hk2; clear hb hk2))
    clear KT
    have HBA := bel1 w5 (.cells (hdc ⟨kpa, kht, kro, ktx, kpr, kva, kval, kvo, kad, krd, kse⟩ (.slice ps2 kval.length cs2) (.slice pg2 kse.length cg2)) 36)
    have RK := Lib.hid (RowAt.new w5 (hdc ⟨kpa, kht, kro, ktx, kpr, kva, kval, kvo, kad, krd, kse⟩ (.slice ps2 kval.length cs2) (.slice pg2 kse.length cg2)) 36)
    replace HK := Lib.hid (HK.out.below HBA)
    replace HB := Lib.hid (HB.out.trans (HBA.mono HB.out.size))
    clear HBA
    generalize w5.alloc (.cells (hdc ⟨kpa, kht, kro, ktx, kpr, kva, kval, kvo, kad, krd, kse⟩ (.slice ps2 kval.length cs2) (.slice pg2 kse.length cg2)) 36) = W8 at *
    have HW := Lib.hid (Below.refl W8.heap.size W8)
    obtain ⟨y0, y1, y2, y3, y4, y5, y6, y7, y8, y9, y10⟩ := RK.out.c11
    by_cases he : e2 = 0
    · subst he
      obtain ⟨hk, hn2, ho2, hrec⟩ := RK1.out rfl
      have hbL := bytesB_of (hdL_true hk) hn2
      rw [if_pos rfl, hrec] at hbL
      have hkl : kval.length ≤ 1000000 := by have := hk.2.2.2.2.2.1.2.2; simp only at this; omega
      have KB2 := Lib.hid (fun W (hb : Below W8.heap.size W8 W) => bytes_any ⟨kpa, kht, kro, ktx, kpr, kva, kval, kvo, kad, krd, kse⟩ _ _ W (HK.out.below hb) hn2 hkl)
      have KR2 := Lib.hid (fun W (hb : Below W8.heap.size W8 W) => hRight_any ⟨kpa, kht, kro, ktx, kpr, kva, kval, kvo, kad, krd, kse⟩ _ _ W (HK.out.below hb) hkl)
      rw [hbL] at KB2
      rw [hdL_true hk] at KR2
      simp only [mkS_bl] at KB2
      dsimp only [hdc, hdV] at KB2 KR2
      clear hk hn2 ho2 hrec hbL hkl RK0 RK1
      go_wp2_with (first
        | (go_at_call 17; ((with_reducible refine (KB2.out _ HW.out).mono ?_); rintro e9 w9 ⟨rfl, hb⟩; replace HB := Lib.hid (HB.out.trans (hb.mono HB.out.size));  replace HW := Lib.hid (HW.out.trans (hb.mono HW.out.size)); replace RK := Lib.hid (RK.out.belowS hb); clear hb y0 y1 y2 y3 y4 y5 y6 y7 y8 y9 y10; obtain ⟨y0, y1, y2, y3, y4, y5, y6, y7, y8, y9, y10⟩ := RK.out.c11))
        | (go_at_call 18; ((with_reducible refine (KA.out _).mono ?_); rintro e9 w9 ⟨rfl, hb⟩; replace HB := Lib.hid (HB.out.trans (hb.mono HB.out.size));  replace HW := Lib.hid (HW.out.trans (hb.mono HW.out.size)); replace RK := Lib.hid (RK.out.belowS hb); clear hb y0 y1 y2 y3 y4 y5 y6 y7 y8 y9 y10; obtain ⟨y0, y1, y2, y3, y4, y5, y6, y7, y8, y9, y10⟩ := RK.out.c11))
        | (go_at_call 23; ((with_reducible refine (KR2.out _ HW.out).mono ?_); rintro e9 w9 ⟨rfl, hb⟩; replace HB := Lib.hid (HB.out.trans (hb.mono HB.out.size));  replace HW := Lib.hid (HW.out.trans (hb.mono HW.out.size)); replace RK := Lib.hid (RK.out.belowS hb); clear hb y0 y1 y2 y3 y4 y5 y6 y7 y8 y9 y10; obtain ⟨y0, y1, y2, y3, y4, y5, y6, y7, y8, y9, y10⟩ := RK.out.c11)))
      go_ret
      exact ⟨rfl, HB2.out.trans (HB.out.mono HB2.out.size)⟩
    · have hz := RK0.out he
      injection hz with h1 h2
      subst h2
      have KL := Lib.hid (fun W (hb : Below W8.heap.size W8 W) => hlike_any ⟨kpa, kht, kro, ktx, kpr, kva, kval, kvo, kad, krd, kse⟩ zHd _ _ _ _ W (HK.out.below hb) (zHd_at W))
      rw [likeH_yes h1] at KL
      dsimp only [hdc, zHd] at KL
      clear RK0 RK1 h1 he
      go_wp2_with (first
        | (go_at_call 18; ((with_reducible refine (KA.out _).mono ?_); rintro e9 w9 ⟨rfl, hb⟩; replace HB := Lib.hid (HB.out.trans (hb.mono HB.out.size));  replace HW := Lib.hid (HW.out.trans (hb.mono HW.out.size)); replace RK := Lib.hid (RK.out.belowS hb); clear hb y0 y1 y2 y3 y4 y5 y6 y7 y8 y9 y10; obtain ⟨y0, y1, y2, y3, y4, y5, y6, y7, y8, y9, y10⟩ := RK.out.c11))
        | (go_at_call 19; ((with_reducible refine (KL.out _ HW.out).mono ?_); rintro e9 w9 ⟨rfl, hb⟩; replace HB := Lib.hid (HB.out.trans (hb.mono HB.out.size));  replace HW := Lib.hid (HW.out.trans (hb.mono HW.out.size)); replace RK := Lib.hid (RK.out.belowS hb); clear hb y0 y1 y2 y3 y4 y5 y6 y7 y8 y9 y10; obtain ⟨y0, y1, y2, y3, y4, y5, y6, y7, y8, y9, y10⟩ := RK.out.c11)))
      go_ret
      exact ⟨rfl, HB2.out.trans (HB.out.mono HB2.out.size)⟩
end Go.Proofs.Ythipnbiilobjeaa

/- HeaderSums walked (printed by gen_husums.py). -/
import Derived.Test.YthipnbiilobjeaaHu1
import Derived.Test.YthipnbiilobjeaaHdRep
import Derived.Deep.DeepCutAuto
namespace Go.Proofs.Ythipnbiilobjeaa
open Go.RowKit Go.Shelf
set_option maxRecDepth 100000

theorem fewS_num {h : Hd} (a : HdNum h) : HdNum (fewD h) := a
theorem fewS_len (h : Hd) : (fewD h).val.length ≤ 1000000 := by
  unfold fewD
  simp only [List.length_map, List.length_take]
  omega
def withS (h : Hd) (l : List Sg) : Hd := ⟨h.pa, h.ht, h.ro, h.tx, h.pr, h.va, h.val, h.vo, h.ad, h.rd, l⟩
theorem codes (h : Hd) {b : Bool} (e : hdL h = b) : (idL h).2 = (if b = true then 0 else 1) ∧ (sealL h).2 = (if b = true then 0 else 1) ∧ (turnL h).2 = (if b = true then 0 else 1) := by
  subst e
  refine ⟨sealL_code _, sealL_code _, ?_⟩
  unfold turnL
  split <;> rfl
theorem sameSums {h : Hd} {l : List Sg} (e : hdL h = true) (e2 : hdL (withS h l) = true) (r : Int) : idL (withS h l) = idL h ∧ sealL (withS h l) = sealL h ∧ turnL (withS h l) = turnL h ∧ idL (inR (withS h l) r) = idL h := by
  have h1 : idL (withS h l) = idL h := by
    unfold idL sealL
    rw [inR_hdL, inR_hdL, e, e2]
    rfl
  refine ⟨h1, ?_, ?_, h1⟩
  · unfold sealL
    rw [e, e2]
    rfl
  · unfold turnL
    rw [h1, e, e2]
    rfl

set_option maxHeartbeats 16000000 in
theorem headerSums_walk (w : World) (v1 : Value) (h : Hd) (r1 : HdRep w v1 h) (round : Int) (hrd : 0 ≤ round ∧ round < 18446744073709551616) (v3 : Value) (l : List Sg) (r3 : SigsRep w v3 l) :
    Calls Try.prog 6 #[v1, .int .u64 round, v3] w fun e w' => e = .returned (.bool true) ∧ Below w.heap.size w w' := by
  obtain ⟨sv, gv, rfl, hh, hn, hz, hvs⟩ := r1
  obtain ⟨pl, cl, rfl, l1, l2⟩ := RowE.shape encG r3.1
  have K1 : Hid (∀ W, Below w.heap.size w W → Calls Try.prog 16 #[.agg (hdc h sv gv)] W (FewPost2 w (fewD h) W)) := Lib.hid (fun W hb => fewD_any h sv gv W hz w hb hh hvs)
  have R1 := Lib.hid (RowAt.new w (hdc h sv gv) 36)
  have HB := Lib.hid (bel1 w (.cells (hdc h sv gv) 36))
  have N1 : Hid (HdNum (fewD h)) := Lib.hid (fewS_num hn)
  have L1 : Hid ((fewD h).val.length ≤ 1000000) := Lib.hid (fewS_len h)
  have KA := Lib.hid (fun W => halive_any W)
  have HR3 := Lib.hid r3
  obtain ⟨m, hm⟩ : ∃ m, m = min l.length 20 := ⟨_, rfl⟩
  have m4 : min (l.length : Int) 20 = m := by omega
  have hml : m ≤ l.length := by omega
  have hmc : m ≤ cl := by omega
  have HM := Lib.hid (show m ≤ 20 by omega)
  have HRD := Lib.hid hrd
  unfold maxLen at l2
  clear hh hn hz hvs hm r3 hrd
  generalize fewD h = fh at *
  obtain ⟨pa, ht, ro, tx, pr, va, val, vo, ad, rd, se⟩ := h
  obtain ⟨fpa, fht, fro, ftx, fpr, fva, fval, fvo, fad, frd, fse⟩ := fh
  dsimp only [hdc] at K1
  go_enter Try.func6, Try.ntmps6
  go_upto_region 1 with (fail)
  generalize w.alloc (.cells (hdc _ sv gv) 36) = W at *
  obtain ⟨x0, x1, x2, x3, x4, x5, x6, x7, x8, x9, x10⟩ := R1.out.c11
  obtain ⟨xf0, xf1, xf2, xf3, xf4, xf5, xf6, xf7, xf8, xf9, xf10⟩ := R1.out.f11
  go_upto_region 2 with (go_at_call 16; ((with_reducible refine (K1.out _ HB.out).mono ?_); rintro e w1 ⟨sa1, ga1, rfl, ho1, hg1, hs1, hb⟩; obtain ⟨ps1, cs1, rfl, -, -⟩ := RowE.shape encS (OwnE.row encS ho1); obtain ⟨pg1, cg1, rfl, -, -⟩ := RowE.shape encG hg1; have HO1 := Lib.hid ho1; have HZ1 := Lib.hid R1.out.lt; have HG1 := Lib.hid (And.intro hg1 hs1); replace HB := Lib.hid (HB.out.trans (hb.mono HB.out.size)); replace R1 := Lib.hid (R1.out.belowS hb); clear hb ho1 hg1 hs1; clear x0 x1 x2 x3 x4 x5 x6 x7 x8 x9 x10 xf0 xf1 xf2 xf3 xf4 xf5 xf6 xf7 xf8 xf9 xf10; obtain ⟨x0, x1, x2, x3, x4, x5, x6, x7, x8, x9, x10⟩ := R1.out.c11; obtain ⟨xf0, xf1, xf2, xf3, xf4, xf5, xf6, xf7, xf8, xf9, xf10⟩ := R1.out.f11))
  clear x0 x1 x2 x3 x4 x5 x6 x7 x8 x9 x10 xf0 xf1 xf2 xf3 xf4 xf5 xf6 xf7 xf8 xf9 xf10
  have hz1 := HZ1.out
  have R2 := Lib.hid (show RowAt (((((((((((w1.setCell ⟨w.heap.size, 0, none⟩ (.string fpa)).setCell ⟨w.heap.size, 1, none⟩ (.int .u64 fht)).setCell ⟨w.heap.size, 2, none⟩ (.string fro)).setCell ⟨w.heap.size, 3, none⟩ (.string ftx)).setCell ⟨w.heap.size, 4, none⟩ (.string fpr)).setCell ⟨w.heap.size, 5, none⟩ (.string fva)).setCell ⟨w.heap.size, 6, none⟩ (.slice ps1 fval.length cs1)).setCell ⟨w.heap.size, 7, none⟩ (.string fvo)).setCell ⟨w.heap.size, 8, none⟩ (.bool fad)).setCell ⟨w.heap.size, 9, none⟩ (.int .u64 frd)).setCell ⟨w.heap.size, 10, none⟩ (.slice pg1 fse.length cg1)) w.heap.size #[(.string fpa), (.int .u64 fht), (.string fro), (.string ftx), (.string fpr), (.string fva), (.slice ps1 fval.length cs1), (.string fvo), (.bool fad), (.int .u64 frd), (.slice pg1 fse.length cg1)] 36 from RowAt.set11 R1.out (.string fpa) (.int .u64 fht) (.string fro) (.string ftx) (.string fpr) (.string fva) (.slice ps1 fval.length cs1) (.string fvo) (.bool fad) (.int .u64 frd) (.slice pg1 fse.length cg1))
  have HB2 := Lib.hid (show Below w.heap.size w (((((((((((w1.setCell ⟨w.heap.size, 0, none⟩ (.string fpa)).setCell ⟨w.heap.size, 1, none⟩ (.int .u64 fht)).setCell ⟨w.heap.size, 2, none⟩ (.string fro)).setCell ⟨w.heap.size, 3, none⟩ (.string ftx)).setCell ⟨w.heap.size, 4, none⟩ (.string fpr)).setCell ⟨w.heap.size, 5, none⟩ (.string fva)).setCell ⟨w.heap.size, 6, none⟩ (.slice ps1 fval.length cs1)).setCell ⟨w.heap.size, 7, none⟩ (.string fvo)).setCell ⟨w.heap.size, 8, none⟩ (.bool fad)).setCell ⟨w.heap.size, 9, none⟩ (.int .u64 frd)).setCell ⟨w.heap.size, 10, none⟩ (.slice pg1 fse.length cg1)) from below_set11 (o := 0) HB.out (Nat.le_refl _) (.string fpa) (.int .u64 fht) (.string fro) (.string ftx) (.string fpr) (.string fva) (.slice ps1 fval.length cs1) (.string fvo) (.bool fad) (.int .u64 frd) (.slice pg1 fse.length cg1))
  have HA := Lib.hid (show HdAt (((((((((((w1.setCell ⟨w.heap.size, 0, none⟩ (.string fpa)).setCell ⟨w.heap.size, 1, none⟩ (.int .u64 fht)).setCell ⟨w.heap.size, 2, none⟩ (.string fro)).setCell ⟨w.heap.size, 3, none⟩ (.string ftx)).setCell ⟨w.heap.size, 4, none⟩ (.string fpr)).setCell ⟨w.heap.size, 5, none⟩ (.string fva)).setCell ⟨w.heap.size, 6, none⟩ (.slice ps1 fval.length cs1)).setCell ⟨w.heap.size, 7, none⟩ (.string fvo)).setCell ⟨w.heap.size, 8, none⟩ (.bool fad)).setCell ⟨w.heap.size, 9, none⟩ (.int .u64 frd)).setCell ⟨w.heap.size, 10, none⟩ (.slice pg1 fse.length cg1)) ⟨fpa, fht, fro, ftx, fpr, fva, fval, fvo, fad, frd, fse⟩ (.slice ps1 fval.length cs1) (.slice pg1 fse.length cg1) from ⟨OwnE.row encS (OwnE.setLow11 HO1.out hz1), RowE.below encG HG1.out.1 HB2.out (Nat.le_refl _), HG1.out.2⟩)
  clear R1 HB HO1 HG1 HZ1 hz1
  generalize (((((((((((w1.setCell ⟨w.heap.size, 0, none⟩ (.string fpa)).setCell ⟨w.heap.size, 1, none⟩ (.int .u64 fht)).setCell ⟨w.heap.size, 2, none⟩ (.string fro)).setCell ⟨w.heap.size, 3, none⟩ (.string ftx)).setCell ⟨w.heap.size, 4, none⟩ (.string fpr)).setCell ⟨w.heap.size, 5, none⟩ (.string fva)).setCell ⟨w.heap.size, 6, none⟩ (.slice ps1 fval.length cs1)).setCell ⟨w.heap.size, 7, none⟩ (.string fvo)).setCell ⟨w.heap.size, 8, none⟩ (.bool fad)).setCell ⟨w.heap.size, 9, none⟩ (.int .u64 frd)).setCell ⟨w.heap.size, 10, none⟩ (.slice pg1 fse.length cg1)) = W2 at *
  go_upto_region 3 with (fail)
  have HB := Lib.hid (Below.refl W2.heap.size W2)
  have KI := Lib.hid (fun W (hb : Below W2.heap.size W2 W) => id_any _ _ _ W (HA.out.below hb) N1.out L1.out)
  have KS := Lib.hid (fun W (hb : Below W2.heap.size W2 W) => seal_any _ _ _ W (HA.out.below hb) N1.out L1.out)
  have KT := Lib.hid (fun W (hb : Below W2.heap.size W2 W) => turn_any _ _ _ W (HA.out.below hb) N1.out L1.out)
  dsimp only [hdV, hdc] at KI KS KT
  obtain ⟨x0, x1, x2, x3, x4, x5, x6, x7, x8, x9, x10⟩ := R2.out.c11
  cases e1 : hdL ⟨fpa, fht, fro, ftx, fpr, fva, fval, fvo, fad, frd, fse⟩ with
  | false =>
    obtain ⟨c1, c2, c3⟩ := codes _ e1
    generalize idL ⟨fpa, fht, fro, ftx, fpr, fva, fval, fvo, fad, frd, fse⟩ = iF at *
    generalize sealL ⟨fpa, fht, fro, ftx, fpr, fva, fval, fvo, fad, frd, fse⟩ = sF at *
    generalize turnL ⟨fpa, fht, fro, ftx, fpr, fva, fval, fvo, fad, frd, fse⟩ = tF at *
    simp only [Bool.false_eq_true, if_false] at c1 c2 c3
    rw [c1] at KI
    rw [c2] at KS
    rw [c3] at KT
    clear c1 c2 c3 e1
    generalize iF.1 = iF at *
    generalize sF.1 = sF at *
    generalize tF.1 = tF at *
    go_upto_region 6 with (first
      | (go_at_call 20; ((with_reducible refine (KI.out _ HB.out).mono ?_); rintro e w3 ⟨rfl, hb⟩; replace R2 := Lib.hid (R2.out.belowS hb); replace HB := Lib.hid (HB.out.trans (hb.mono HB.out.size)); clear hb x0 x1 x2 x3 x4 x5 x6 x7 x8 x9 x10; obtain ⟨x0, x1, x2, x3, x4, x5, x6, x7, x8, x9, x10⟩ := R2.out.c11))
      | (go_at_call 21; ((with_reducible refine (KS.out _ HB.out).mono ?_); rintro e w4 ⟨rfl, hb⟩; replace R2 := Lib.hid (R2.out.belowS hb); replace HB := Lib.hid (HB.out.trans (hb.mono HB.out.size)); clear hb x0 x1 x2 x3 x4 x5 x6 x7 x8 x9 x10; obtain ⟨x0, x1, x2, x3, x4, x5, x6, x7, x8, x9, x10⟩ := R2.out.c11))
      | (go_at_call 22; ((with_reducible refine (KT.out _ HB.out).mono ?_); rintro e w5 ⟨rfl, hb⟩; replace R2 := Lib.hid (R2.out.belowS hb); replace HB := Lib.hid (HB.out.trans (hb.mono HB.out.size)); clear hb x0 x1 x2 x3 x4 x5 x6 x7 x8 x9 x10; obtain ⟨x0, x1, x2, x3, x4, x5, x6, x7, x8, x9, x10⟩ := R2.out.c11)))
    clear x0 x1 x2 x3 x4 x5 x6 x7 x8 x9 x10
    have HL5 := Lib.hid (show w.heap.size ≤ w5.heap.size from Nat.le_trans HB2.out.size HB.out.size)
    have R6 := Lib.hid (RowAt.new w5 #[(.string fpa), (.int .u64 fht), (.string fro), (.string ftx), (.string fpr), (.string fva), (.slice ps1 fval.length cs1), (.string fvo), (.bool fad), (.int .u64 frd), (.slice pl m cl)] 36)
    have HB6 := Lib.hid (HB.out.alloc HB.out.size (.cells #[(.string fpa), (.int .u64 fht), (.string fro), (.string ftx), (.string fpr), (.string fva), (.slice ps1 fval.length cs1), (.string fvo), (.bool fad), (.int .u64 frd), (.slice pl m cl)] 36))
    have HB5 := Lib.hid ((Below.refl w5.heap.size w5).alloc (Nat.le_refl _) (.cells #[(.string fpa), (.int .u64 fht), (.string fro), (.string ftx), (.string fpr), (.string fva), (.slice ps1 fval.length cs1), (.string fvo), (.bool fad), (.int .u64 frd), (.slice pl m cl)] 36))
    have HW5 := Lib.hid HB.out
    obtain ⟨x0, x1, x2, x3, x4, x5, x6, x7, x8, x9, x10⟩ := R2.out.c11
    go_upto_region 8 with (fail)
    clear x0 x1 x2 x3 x4 x5 x6 x7 x8 x9 x10 HB
    generalize (w5.alloc (.cells #[(.string fpa), (.int .u64 fht), (.string fro), (.string ftx), (.string fpr), (.string fva), (.slice ps1 fval.length cs1), (.string fvo), (.bool fad), (.int .u64 frd), (.slice pl m cl)] 36)) = W6 at *
    have HB := Lib.hid HB6.out
    clear HB6
    go_wp2_with (go_at_call 18; ((with_reducible refine (KA.out _).mono ?_); rintro e w9 ⟨rfl, hb⟩; replace HB := Lib.hid (HB.out.trans (hb.mono HB.out.size)); clear hb))
    go_ret
    exact ⟨rfl, HB2.out.trans (HB.out.mono HB2.out.size)⟩
  | true =>
    have SS := Lib.hid (fun (e2 : hdL (withS ⟨fpa, fht, fro, ftx, fpr, fva, fval, fvo, fad, frd, fse⟩ (l.take m)) = true) => sameSums (h := ⟨fpa, fht, fro, ftx, fpr, fva, fval, fvo, fad, frd, fse⟩) (l := l.take m) e1 e2 round)
    obtain ⟨c1, c2, c3⟩ := codes _ e1
    have KR0 : Hid (∀ W W0 sv' gv', HdAt W0 (withS ⟨fpa, fht, fro, ftx, fpr, fva, fval, fvo, fad, frd, fse⟩ (l.take m)) sv' gv' → Below W0.heap.size W0 W → Calls Try.prog 23 #[.agg (hdc (withS ⟨fpa, fht, fro, ftx, fpr, fva, fval, fvo, fad, frd, fse⟩ (l.take m)) sv' gv')] W fun e w' => e = .returned (.bool (hdL (withS ⟨fpa, fht, fro, ftx, fpr, fva, fval, fvo, fad, frd, fse⟩ (l.take m)))) ∧ Below W.heap.size W w') := Lib.hid (fun W W0 sv' gv' ha hb => hRight_any _ _ _ W (ha.below hb) L1.out)
    have KI0 : Hid (∀ W W0 sv' gv', HdAt W0 (withS ⟨fpa, fht, fro, ftx, fpr, fva, fval, fvo, fad, frd, fse⟩ (l.take m)) sv' gv' → Below W0.heap.size W0 W → Calls Try.prog 20 #[.agg (hdc (withS ⟨fpa, fht, fro, ftx, fpr, fva, fval, fvo, fad, frd, fse⟩ (l.take m)) sv' gv')] W fun e w' => e = .returned (.tuple #[.string (mkS (idL (withS ⟨fpa, fht, fro, ftx, fpr, fva, fval, fvo, fad, frd, fse⟩ (l.take m))).1), .int .i64 (idL (withS ⟨fpa, fht, fro, ftx, fpr, fva, fval, fvo, fad, frd, fse⟩ (l.take m))).2]) ∧ Below W.heap.size W w') := Lib.hid (fun W W0 sv' gv' ha hb => id_any _ _ _ W (ha.below hb) N1.out L1.out)
    have KS0 : Hid (∀ W W0 sv' gv', HdAt W0 (withS ⟨fpa, fht, fro, ftx, fpr, fva, fval, fvo, fad, frd, fse⟩ (l.take m)) sv' gv' → Below W0.heap.size W0 W → Calls Try.prog 21 #[.agg (hdc (withS ⟨fpa, fht, fro, ftx, fpr, fva, fval, fvo, fad, frd, fse⟩ (l.take m)) sv' gv')] W fun e w' => e = .returned (.tuple #[.string (mkS (sealL (withS ⟨fpa, fht, fro, ftx, fpr, fva, fval, fvo, fad, frd, fse⟩ (l.take m))).1), .int .i64 (sealL (withS ⟨fpa, fht, fro, ftx, fpr, fva, fval, fvo, fad, frd, fse⟩ (l.take m))).2]) ∧ Below W.heap.size W w') := Lib.hid (fun W W0 sv' gv' ha hb => seal_any _ _ _ W (ha.below hb) N1.out L1.out)
    have KT0 : Hid (∀ W W0 sv' gv', HdAt W0 (withS ⟨fpa, fht, fro, ftx, fpr, fva, fval, fvo, fad, frd, fse⟩ (l.take m)) sv' gv' → Below W0.heap.size W0 W → Calls Try.prog 22 #[.agg (hdc (withS ⟨fpa, fht, fro, ftx, fpr, fva, fval, fvo, fad, frd, fse⟩ (l.take m)) sv' gv')] W fun e w' => e = .returned (.tuple #[.string (mkS (turnL (withS ⟨fpa, fht, fro, ftx, fpr, fva, fval, fvo, fad, frd, fse⟩ (l.take m))).1), .int .i64 (turnL (withS ⟨fpa, fht, fro, ftx, fpr, fva, fval, fvo, fad, frd, fse⟩ (l.take m))).2]) ∧ Below W.heap.size W w') := Lib.hid (fun W W0 sv' gv' ha hb => turn_any _ _ _ W (ha.below hb) N1.out L1.out)
    have KJ0 : Hid (∀ W W0 sv' gv', HdAt W0 (withS ⟨fpa, fht, fro, ftx, fpr, fva, fval, fvo, fad, frd, fse⟩ (l.take m)) sv' gv' → Below W0.heap.size W0 W → Calls Try.prog 20 #[.agg (hdc (inR (withS ⟨fpa, fht, fro, ftx, fpr, fva, fval, fvo, fad, frd, fse⟩ (l.take m)) round) sv' gv')] W fun e w' => e = .returned (.tuple #[.string (mkS (idL (inR (withS ⟨fpa, fht, fro, ftx, fpr, fva, fval, fvo, fad, frd, fse⟩ (l.take m)) round)).1), .int .i64 (idL (inR (withS ⟨fpa, fht, fro, ftx, fpr, fva, fval, fvo, fad, frd, fse⟩ (l.take m)) round)).2]) ∧ Below W.heap.size W w') := Lib.hid (fun W W0 sv' gv' ha hb => id_any (inR (withS ⟨fpa, fht, fro, ftx, fpr, fva, fval, fvo, fad, frd, fse⟩ (l.take m)) round) _ _ W (ha.below hb) ⟨N1.out.1, HRD.out⟩ L1.out)
    generalize idL ⟨fpa, fht, fro, ftx, fpr, fva, fval, fvo, fad, frd, fse⟩ = iF at *
    generalize sealL ⟨fpa, fht, fro, ftx, fpr, fva, fval, fvo, fad, frd, fse⟩ = sF at *
    generalize turnL ⟨fpa, fht, fro, ftx, fpr, fva, fval, fvo, fad, frd, fse⟩ = tF at *
    simp only [if_true] at c1 c2 c3
    rw [c1] at KI
    rw [c2] at KS
    rw [c3] at KT
    clear e1
    go_upto_region 6 with (first
      | (go_at_call 20; ((with_reducible refine (KI.out _ HB.out).mono ?_); rintro e w3 ⟨rfl, hb⟩; replace R2 := Lib.hid (R2.out.belowS hb); replace HB := Lib.hid (HB.out.trans (hb.mono HB.out.size)); clear hb x0 x1 x2 x3 x4 x5 x6 x7 x8 x9 x10; obtain ⟨x0, x1, x2, x3, x4, x5, x6, x7, x8, x9, x10⟩ := R2.out.c11))
      | (go_at_call 21; ((with_reducible refine (KS.out _ HB.out).mono ?_); rintro e w4 ⟨rfl, hb⟩; replace R2 := Lib.hid (R2.out.belowS hb); replace HB := Lib.hid (HB.out.trans (hb.mono HB.out.size)); clear hb x0 x1 x2 x3 x4 x5 x6 x7 x8 x9 x10; obtain ⟨x0, x1, x2, x3, x4, x5, x6, x7, x8, x9, x10⟩ := R2.out.c11))
      | (go_at_call 22; ((with_reducible refine (KT.out _ HB.out).mono ?_); rintro e w5 ⟨rfl, hb⟩; replace R2 := Lib.hid (R2.out.belowS hb); replace HB := Lib.hid (HB.out.trans (hb.mono HB.out.size)); clear hb x0 x1 x2 x3 x4 x5 x6 x7 x8 x9 x10; obtain ⟨x0, x1, x2, x3, x4, x5, x6, x7, x8, x9, x10⟩ := R2.out.c11)))
    clear x0 x1 x2 x3 x4 x5 x6 x7 x8 x9 x10
    have HL5 := Lib.hid (show w.heap.size ≤ w5.heap.size from Nat.le_trans HB2.out.size HB.out.size)
    have R6 := Lib.hid (RowAt.new w5 #[(.string fpa), (.int .u64 fht), (.string fro), (.string ftx), (.string fpr), (.string fva), (.slice ps1 fval.length cs1), (.string fvo), (.bool fad), (.int .u64 frd), (.slice pl m cl)] 36)
    have HB6 := Lib.hid (HB.out.alloc HB.out.size (.cells #[(.string fpa), (.int .u64 fht), (.string fro), (.string ftx), (.string fpr), (.string fva), (.slice ps1 fval.length cs1), (.string fvo), (.bool fad), (.int .u64 frd), (.slice pl m cl)] 36))
    have HB5 := Lib.hid ((Below.refl w5.heap.size w5).alloc (Nat.le_refl _) (.cells #[(.string fpa), (.int .u64 fht), (.string fro), (.string ftx), (.string fpr), (.string fva), (.slice ps1 fval.length cs1), (.string fvo), (.bool fad), (.int .u64 frd), (.slice pl m cl)] 36))
    have HW5 := Lib.hid HB.out
    obtain ⟨x0, x1, x2, x3, x4, x5, x6, x7, x8, x9, x10⟩ := R2.out.c11
    go_upto_region 8 with (fail)
    clear x0 x1 x2 x3 x4 x5 x6 x7 x8 x9 x10 HB
    generalize (w5.alloc (.cells #[(.string fpa), (.int .u64 fht), (.string fro), (.string ftx), (.string fpr), (.string fva), (.slice ps1 fval.length cs1), (.string fvo), (.bool fad), (.int .u64 frd), (.slice pl m cl)] 36)) = W6 at *
    have HB := Lib.hid HB6.out
    clear HB6
    have HA5 := Lib.hid (show HdAt w5 (withS ⟨fpa, fht, fro, ftx, fpr, fva, fval, fvo, fad, frd, fse⟩ (l.take m)) (.slice ps1 fval.length cs1) (.slice pl m cl) from ⟨(HA.out.below HW5.out).1, RowE.take encG (RowE.below encG HR3.out.1 (HB2.out.trans (HW5.out.mono HB2.out.size)) (Nat.le_refl _)) hml, fun s hs => HR3.out.2 s (List.mem_of_mem_take hs)⟩)
    have HA6 := Lib.hid (show HdAt W6 (withS ⟨fpa, fht, fro, ftx, fpr, fva, fval, fvo, fad, frd, fse⟩ (l.take m)) (.slice ps1 fval.length cs1) (.slice pl m cl) from ⟨(HA.out.below HB.out).1, RowE.take encG (RowE.below encG HR3.out.1 (HB2.out.trans (HB.out.mono HB2.out.size)) (Nat.le_refl _)) hml, fun s hs => HR3.out.2 s (List.mem_of_mem_take hs)⟩)
    replace KR0 := Lib.hid (fun W hb => KR0.out W W6 _ _ HA6.out hb)
    replace KI0 := Lib.hid (fun W hb => KI0.out W W6 _ _ HA6.out hb)
    replace KS0 := Lib.hid (fun W hb => KS0.out W W6 _ _ HA6.out hb)
    replace KT0 := Lib.hid (fun W hb => KT0.out W W6 _ _ HA6.out hb)
    replace KJ0 := Lib.hid (fun W hb => KJ0.out W w5 _ _ HA5.out hb)
    have HB0 := Lib.hid (HB2.out.trans (HB.out.mono HB2.out.size))
    clear HB KI KS KT HA HA6 HA5 HW5 R2 HR3 m4 hml hmc l1 l2 N1 L1 K1 HRD HM
    have HB := Lib.hid (Below.refl W6.heap.size W6)
    generalize hdL (withS ⟨fpa, fht, fro, ftx, fpr, fva, fval, fvo, fad, frd, fse⟩ (l.take m)) = b2 at *
    generalize idL (withS ⟨fpa, fht, fro, ftx, fpr, fva, fval, fvo, fad, frd, fse⟩ (l.take m)) = iO at *
    generalize sealL (withS ⟨fpa, fht, fro, ftx, fpr, fva, fval, fvo, fad, frd, fse⟩ (l.take m)) = sO at *
    generalize turnL (withS ⟨fpa, fht, fro, ftx, fpr, fva, fval, fvo, fad, frd, fse⟩ (l.take m)) = tO at *
    generalize idL (inR (withS ⟨fpa, fht, fro, ftx, fpr, fva, fval, fvo, fad, frd, fse⟩ (l.take m)) round) = iR at *
    dsimp only [hdc, withS, inR] at KR0 KI0 KS0 KT0 KJ0
    obtain ⟨x0, x1, x2, x3, x4, x5, x6, x7, x8, x9, x10⟩ := R6.out.c11
    cases b2 with
    | false =>
      clear SS KI0 KS0 KT0 KJ0
      go_wp2_with (first
        | (go_at_call 23; ((with_reducible refine (KR0.out _ HB.out).mono ?_); rintro e w7 ⟨rfl, hb⟩; replace HB := Lib.hid (HB.out.trans (hb.mono HB.out.size)); clear hb))
        | (go_at_call 18; ((with_reducible refine (KA.out _).mono ?_); rintro e w9 ⟨rfl, hb⟩; replace HB := Lib.hid (HB.out.trans (hb.mono HB.out.size)); clear hb)))
      go_ret
      exact ⟨rfl, HB0.out.trans (HB.out.mono HB0.out.size)⟩
    | true =>
      obtain ⟨s1, s2, s3, s4⟩ := SS.out rfl
      subst s1 s2 s3 s4
      rw [c1] at KI0 KJ0
      rw [c2] at KS0
      rw [c3] at KT0
      clear SS c1 c2 c3
      go_upto_region 13 with (first
        | (go_at_call 23; ((with_reducible refine (KR0.out _ HB.out).mono ?_); rintro e w7 ⟨rfl, hb⟩; replace R6 := Lib.hid (R6.out.belowS hb); replace HB := Lib.hid (HB.out.trans (hb.mono HB.out.size)); clear hb x0 x1 x2 x3 x4 x5 x6 x7 x8 x9 x10; obtain ⟨x0, x1, x2, x3, x4, x5, x6, x7, x8, x9, x10⟩ := R6.out.c11))
        | (go_at_call 20; ((with_reducible refine (KI0.out _ HB.out).mono ?_); rintro e w8 ⟨rfl, hb⟩; replace R6 := Lib.hid (R6.out.belowS hb); replace HB := Lib.hid (HB.out.trans (hb.mono HB.out.size)); clear hb x0 x1 x2 x3 x4 x5 x6 x7 x8 x9 x10; obtain ⟨x0, x1, x2, x3, x4, x5, x6, x7, x8, x9, x10⟩ := R6.out.c11))
        | (go_at_call 21; ((with_reducible refine (KS0.out _ HB.out).mono ?_); rintro e w9 ⟨rfl, hb⟩; replace R6 := Lib.hid (R6.out.belowS hb); replace HB := Lib.hid (HB.out.trans (hb.mono HB.out.size)); clear hb x0 x1 x2 x3 x4 x5 x6 x7 x8 x9 x10; obtain ⟨x0, x1, x2, x3, x4, x5, x6, x7, x8, x9, x10⟩ := R6.out.c11))
        | (go_at_call 22; ((with_reducible refine (KT0.out _ HB.out).mono ?_); rintro e wa ⟨rfl, hb⟩; replace R6 := Lib.hid (R6.out.belowS hb); replace HB := Lib.hid (HB.out.trans (hb.mono HB.out.size)); clear hb x0 x1 x2 x3 x4 x5 x6 x7 x8 x9 x10; obtain ⟨x0, x1, x2, x3, x4, x5, x6, x7, x8, x9, x10⟩ := R6.out.c11)))
      have xf := R6.out.frozen 9
      have R7 := Lib.hid (show RowAt (wa.setCell ⟨w5.heap.size, 9, none⟩ (.int .u64 round)) w5.heap.size #[(.string fpa), (.int .u64 fht), (.string fro), (.string ftx), (.string fpr), (.string fva), (.slice ps1 fval.length cs1), (.string fvo), (.bool fad), (.int .u64 round), (.slice pl m cl)] 36 from R6.out.set 9 _ rfl)
      have HB7 := Lib.hid ((HB0.out.trans (HB.out.mono HB0.out.size)).setCell (p := ⟨w5.heap.size, 9, none⟩) HL5.out (.int .u64 round))
      have HB75 := Lib.hid ((HB5.out.trans (HB.out.mono HB5.out.size)).setCell (p := ⟨w5.heap.size, 9, none⟩) (Nat.le_refl _) (.int .u64 round))
      go_upto_region 14 with (fail)
      clear xf x0 x1 x2 x3 x4 x5 x6 x7 x8 x9 x10 HB HB5 HB0 R6
      generalize wa.setCell ⟨w5.heap.size, 9, none⟩ (.int .u64 round) = W7 at *
      obtain ⟨x0, x1, x2, x3, x4, x5, x6, x7, x8, x9, x10⟩ := R7.out.c11
      have HB := Lib.hid HB7.out
      clear HB7 KI0 KS0 KT0 KR0
      go_wp2_with (first
        | (go_at_call 20; ((with_reducible refine (KJ0.out _ HB75.out).mono ?_); rintro e wb ⟨rfl, hb⟩; replace HB := Lib.hid (HB.out.trans (hb.mono HB.out.size)); clear hb))
        | (go_at_call 18; ((with_reducible refine (KA.out _).mono ?_); rintro e wc ⟨rfl, hb⟩; replace HB := Lib.hid (HB.out.trans (hb.mono HB.out.size)); clear hb)))
      go_ret
      exact ⟨rfl, HB.out⟩
end Go.Proofs.Ythipnbiilobjeaa

/- HeaderBytes walked (printed by gen_hbytes.py). -/
import Derived.Test.YthipnbiilobjeaaRw15
import Derived.Test.YthipnbiilobjeaaHdRep
import Derived.Deep.DeepCutAuto
namespace Go.Proofs.Ythipnbiilobjeaa
open Go.RowKit Go.Shelf
set_option maxRecDepth 100000

theorem mkS_emp : mkS [] = ⟨#[]⟩ := rfl
theorem few_num {h : Hd} (a : HdNum h) : HdNum (fewD h) := a
theorem few_len (h : Hd) : (fewD h).val.length ≤ 1000000 := by
  unfold fewD
  simp only [List.length_map, List.length_take]
  omega

set_option maxHeartbeats 16000000 in
theorem headerBytes_walk (w : World) (v1 : Value) (h : Hd) (r1 : HdRep w v1 h) :
    Calls Try.prog 5 #[v1] w fun e w' => e = .returned (.bool true) ∧ Below w.heap.size w w' := by
  obtain ⟨sv, gv, rfl, hh, hn, hz, hvs⟩ := r1
  have K1 : Hid (∀ W, Below w.heap.size w W → Calls Try.prog 16 #[.agg (hdc h sv gv)] W (FewPost2 w (fewD h) W)) := Lib.hid (fun W hb => fewD_any h sv gv W hz w hb hh hvs)
  have R1 := Lib.hid (RowAt.new w (hdc h sv gv) 36)
  have HB := Lib.hid (bel1 w (.cells (hdc h sv gv) 36))
  have N1 : Hid (HdNum (fewD h)) := Lib.hid (few_num hn)
  have L1 : Hid ((fewD h).val.length ≤ 1000000) := Lib.hid (few_len h)
  have KA := Lib.hid (fun W => halive_any W)
  clear hh hn hz hvs
  generalize fewD h = fh at *
  obtain ⟨pa, ht, ro, tx, pr, va, val, vo, ad, rd, se⟩ := h
  obtain ⟨fpa, fht, fro, ftx, fpr, fva, fval, fvo, fad, frd, fse⟩ := fh
  dsimp only [hdc] at K1
  go_enter Try.func5, Try.ntmps5
  go_upto_region 1 with (fail)
  generalize w.alloc (.cells (hdc _ sv gv) 36) = W at *
  obtain ⟨x0, x1, x2, x3, x4, x5, x6, x7, x8, x9, x10⟩ := R1.out.c11
  obtain ⟨xf0, xf1, xf2, xf3, xf4, xf5, xf6, xf7, xf8, xf9, xf10⟩ := R1.out.f11
  go_upto_region 2 with (go_at_call 16; ((with_reducible refine (K1.out _ HB.out).mono ?_); rintro e w1 ⟨sa1, ga1, rfl, ho1, hg1, hs1, hb⟩; obtain ⟨ps1, cs1, rfl, -, -⟩ := RowE.shape encS (OwnE.row encS ho1); obtain ⟨pg1, cg1, rfl, -, -⟩ := RowE.shape encG hg1; have HO1 := Lib.hid ho1; have HZ1 := Lib.hid R1.out.lt; have HG1 := Lib.hid (And.intro hg1 hs1); replace HB := Lib.hid (HB.out.trans (hb.mono HB.out.size)); replace R1 := Lib.hid (R1.out.belowS hb); clear hb ho1 hg1 hs1; clear x0 x1 x2 x3 x4 x5 x6 x7 x8 x9 x10 xf0 xf1 xf2 xf3 xf4 xf5 xf6 xf7 xf8 xf9 xf10; obtain ⟨x0, x1, x2, x3, x4, x5, x6, x7, x8, x9, x10⟩ := R1.out.c11; obtain ⟨xf0, xf1, xf2, xf3, xf4, xf5, xf6, xf7, xf8, xf9, xf10⟩ := R1.out.f11))
  clear x0 x1 x2 x3 x4 x5 x6 x7 x8 x9 x10 xf0 xf1 xf2 xf3 xf4 xf5 xf6 xf7 xf8 xf9 xf10
  have hz1 := HZ1.out
  have R2 := Lib.hid (show RowAt (((((((((((w1.setCell ⟨w.heap.size, 0, none⟩ (.string fpa)).setCell ⟨w.heap.size, 1, none⟩ (.int .u64 fht)).setCell ⟨w.heap.size, 2, none⟩ (.string fro)).setCell ⟨w.heap.size, 3, none⟩ (.string ftx)).setCell ⟨w.heap.size, 4, none⟩ (.string fpr)).setCell ⟨w.heap.size, 5, none⟩ (.string fva)).setCell ⟨w.heap.size, 6, none⟩ (.slice ps1 fval.length cs1)).setCell ⟨w.heap.size, 7, none⟩ (.string fvo)).setCell ⟨w.heap.size, 8, none⟩ (.bool fad)).setCell ⟨w.heap.size, 9, none⟩ (.int .u64 frd)).setCell ⟨w.heap.size, 10, none⟩ (.slice pg1 fse.length cg1)) w.heap.size #[(.string fpa), (.int .u64 fht), (.string fro), (.string ftx), (.string fpr), (.string fva), (.slice ps1 fval.length cs1), (.string fvo), (.bool fad), (.int .u64 frd), (.slice pg1 fse.length cg1)] 36 from RowAt.set11 R1.out (.string fpa) (.int .u64 fht) (.string fro) (.string ftx) (.string fpr) (.string fva) (.slice ps1 fval.length cs1) (.string fvo) (.bool fad) (.int .u64 frd) (.slice pg1 fse.length cg1))
  have HB2 := Lib.hid (show Below w.heap.size w (((((((((((w1.setCell ⟨w.heap.size, 0, none⟩ (.string fpa)).setCell ⟨w.heap.size, 1, none⟩ (.int .u64 fht)).setCell ⟨w.heap.size, 2, none⟩ (.string fro)).setCell ⟨w.heap.size, 3, none⟩ (.string ftx)).setCell ⟨w.heap.size, 4, none⟩ (.string fpr)).setCell ⟨w.heap.size, 5, none⟩ (.string fva)).setCell ⟨w.heap.size, 6, none⟩ (.slice ps1 fval.length cs1)).setCell ⟨w.heap.size, 7, none⟩ (.string fvo)).setCell ⟨w.heap.size, 8, none⟩ (.bool fad)).setCell ⟨w.heap.size, 9, none⟩ (.int .u64 frd)).setCell ⟨w.heap.size, 10, none⟩ (.slice pg1 fse.length cg1)) from below_set11 (o := 0) HB.out (Nat.le_refl _) (.string fpa) (.int .u64 fht) (.string fro) (.string ftx) (.string fpr) (.string fva) (.slice ps1 fval.length cs1) (.string fvo) (.bool fad) (.int .u64 frd) (.slice pg1 fse.length cg1))
  have HA := Lib.hid (show HdAt (((((((((((w1.setCell ⟨w.heap.size, 0, none⟩ (.string fpa)).setCell ⟨w.heap.size, 1, none⟩ (.int .u64 fht)).setCell ⟨w.heap.size, 2, none⟩ (.string fro)).setCell ⟨w.heap.size, 3, none⟩ (.string ftx)).setCell ⟨w.heap.size, 4, none⟩ (.string fpr)).setCell ⟨w.heap.size, 5, none⟩ (.string fva)).setCell ⟨w.heap.size, 6, none⟩ (.slice ps1 fval.length cs1)).setCell ⟨w.heap.size, 7, none⟩ (.string fvo)).setCell ⟨w.heap.size, 8, none⟩ (.bool fad)).setCell ⟨w.heap.size, 9, none⟩ (.int .u64 frd)).setCell ⟨w.heap.size, 10, none⟩ (.slice pg1 fse.length cg1)) ⟨fpa, fht, fro, ftx, fpr, fva, fval, fvo, fad, frd, fse⟩ (.slice ps1 fval.length cs1) (.slice pg1 fse.length cg1) from ⟨OwnE.row encS (OwnE.setLow11 HO1.out hz1), RowE.below encG HG1.out.1 HB2.out (Nat.le_refl _), HG1.out.2⟩)
  clear R1 HB HO1 HG1 HZ1 hz1
  generalize (((((((((((w1.setCell ⟨w.heap.size, 0, none⟩ (.string fpa)).setCell ⟨w.heap.size, 1, none⟩ (.int .u64 fht)).setCell ⟨w.heap.size, 2, none⟩ (.string fro)).setCell ⟨w.heap.size, 3, none⟩ (.string ftx)).setCell ⟨w.heap.size, 4, none⟩ (.string fpr)).setCell ⟨w.heap.size, 5, none⟩ (.string fva)).setCell ⟨w.heap.size, 6, none⟩ (.slice ps1 fval.length cs1)).setCell ⟨w.heap.size, 7, none⟩ (.string fvo)).setCell ⟨w.heap.size, 8, none⟩ (.bool fad)).setCell ⟨w.heap.size, 9, none⟩ (.int .u64 frd)).setCell ⟨w.heap.size, 10, none⟩ (.slice pg1 fse.length cg1)) = W2 at *
  have HB := Lib.hid (Below.refl W2.heap.size W2)
  have KB := fun W (hb : Below W2.heap.size W2 W) => bytes_any _ _ _ W (HA.out.below hb) N1.out L1.out
  have KI := fun W (hb : Below W2.heap.size W2 W) => id_any _ _ _ W (HA.out.below hb) N1.out L1.out
  have KS := fun W (hb : Below W2.heap.size W2 W) => seal_any _ _ _ W (HA.out.below hb) N1.out L1.out
  have KT := fun W (hb : Below W2.heap.size W2 W) => turn_any _ _ _ W (HA.out.below hb) N1.out L1.out
  have KR := fun W (hb : Below W2.heap.size W2 W) => hRight_any _ _ _ W (HA.out.below hb) L1.out
  have KQ := fun W (hb : Below W2.heap.size W2 W) => rhRight_any _ _ _ W (HA.out.below hb) L1.out
  dsimp only [hdV, hdc] at KB KI KS KT KR KQ
  obtain ⟨x0, x1, x2, x3, x4, x5, x6, x7, x8, x9, x10⟩ := R2.out.c11
  cases e1 : hdL ⟨fpa, fht, fro, ftx, fpr, fva, fval, fvo, fad, frd, fse⟩ with
  | false =>
    have eb : bytesL ⟨fpa, fht, fro, ftx, fpr, fva, fval, fvo, fad, frd, fse⟩ = ([], 1) := by unfold bytesL; rw [e1]; rfl
    have ei : idL ⟨fpa, fht, fro, ftx, fpr, fva, fval, fvo, fad, frd, fse⟩ = ([], 1) := by unfold idL sealL; rw [inR_hdL, e1]; rfl
    have es : sealL ⟨fpa, fht, fro, ftx, fpr, fva, fval, fvo, fad, frd, fse⟩ = ([], 1) := by unfold sealL; rw [e1]; rfl
    have et : turnL ⟨fpa, fht, fro, ftx, fpr, fva, fval, fvo, fad, frd, fse⟩ = ([], 1) := by unfold turnL; rw [e1]; rfl
    rw [eb] at KB
    rw [ei] at KI
    rw [es] at KS
    rw [et] at KT
    rw [e1] at KR KQ
    simp only [mkS_emp] at KB KI KS KT
    replace KB := Lib.hid KB
    replace KI := Lib.hid KI
    replace KS := Lib.hid KS
    replace KT := Lib.hid KT
    replace KR := Lib.hid KR
    replace KQ := Lib.hid KQ
    clear eb ei es et e1
    go_upto_region 6 with (first
      | (go_at_call 17; ((with_reducible refine (KB.out _ HB.out).mono ?_); rintro e w3 ⟨rfl, hb⟩; replace R2 := Lib.hid (R2.out.belowS hb); replace HB := Lib.hid (HB.out.trans (hb.mono HB.out.size)); clear hb x0 x1 x2 x3 x4 x5 x6 x7 x8 x9 x10; obtain ⟨x0, x1, x2, x3, x4, x5, x6, x7, x8, x9, x10⟩ := R2.out.c11))
      | (go_at_call 20; ((with_reducible refine (KI.out _ HB.out).mono ?_); rintro e w4 ⟨rfl, hb⟩; replace R2 := Lib.hid (R2.out.belowS hb); replace HB := Lib.hid (HB.out.trans (hb.mono HB.out.size)); clear hb x0 x1 x2 x3 x4 x5 x6 x7 x8 x9 x10; obtain ⟨x0, x1, x2, x3, x4, x5, x6, x7, x8, x9, x10⟩ := R2.out.c11))
      | (go_at_call 21; ((with_reducible refine (KS.out _ HB.out).mono ?_); rintro e w5 ⟨rfl, hb⟩; replace R2 := Lib.hid (R2.out.belowS hb); replace HB := Lib.hid (HB.out.trans (hb.mono HB.out.size)); clear hb x0 x1 x2 x3 x4 x5 x6 x7 x8 x9 x10; obtain ⟨x0, x1, x2, x3, x4, x5, x6, x7, x8, x9, x10⟩ := R2.out.c11))
      | (go_at_call 22; ((with_reducible refine (KT.out _ HB.out).mono ?_); rintro e w6 ⟨rfl, hb⟩; replace R2 := Lib.hid (R2.out.belowS hb); replace HB := Lib.hid (HB.out.trans (hb.mono HB.out.size)); clear hb x0 x1 x2 x3 x4 x5 x6 x7 x8 x9 x10; obtain ⟨x0, x1, x2, x3, x4, x5, x6, x7, x8, x9, x10⟩ := R2.out.c11)))
    clear x0 x1 x2 x3 x4 x5 x6 x7 x8 x9 x10
    have z0 := fun u : Later w6 => (R2.out.later u).cell 0
    have z1 := fun u : Later w6 => (R2.out.later u).cell 1
    have z2 := fun u : Later w6 => (R2.out.later u).cell 2
    have z3 := fun u : Later w6 => (R2.out.later u).cell 3
    have z4 := fun u : Later w6 => (R2.out.later u).cell 4
    have z5 := fun u : Later w6 => (R2.out.later u).cell 5
    have z6 := fun u : Later w6 => (R2.out.later u).cell 6
    have z7 := fun u : Later w6 => (R2.out.later u).cell 7
    have z8 := fun u : Later w6 => (R2.out.later u).cell 8
    have z9 := fun u : Later w6 => (R2.out.later u).cell 9
    have z10 := fun u : Later w6 => (R2.out.later u).cell 10
    have KR1 : Hid (∀ u : Later w6, Calls Try.prog 23 #[.agg #[(.string fpa), (.int .u64 fht), (.string fro), (.string ftx), (.string fpr), (.string fva), (.slice ps1 fval.length cs1), (.string fvo), (.bool fad), (.int .u64 frd), (.slice pg1 fse.length cg1)]] u.w fun e w' => e = .returned (.bool false) ∧ Below u.w.heap.size u.w w') := Lib.hid fun u => KR.out _ (HB.out.trans (u.below.mono HB.out.size))
    have KR2 : Hid (∀ u : Later w6, Calls Try.prog 24 #[.agg #[(.string fpa), (.int .u64 fht), (.string fro), (.string ftx), (.string fpr), (.string fva), (.slice ps1 fval.length cs1), (.string fvo), (.bool fad), (.int .u64 frd), (.slice pg1 fse.length cg1)]] u.w fun e w' => e = .returned (.bool false) ∧ Below u.w.heap.size u.w w') := Lib.hid fun u => KQ.out _ (HB.out.trans (u.below.mono HB.out.size))
    have KA1 : Hid (∀ u : Later w6, Calls Try.prog 18 #[] u.w fun e w' => e = .returned (.bool true) ∧ Below u.w.heap.size u.w w') := Lib.hid fun u => KA.out _
    (refine region_later mix ?hB ?_; case hB => kernel_rfl); (repeat (first | go_big_quiet_step ((first | (go_at_call 23; with_reducible exact Later.call (KR1.out _)) | (go_at_call 24; with_reducible exact Later.call (KR2.out _)) | (go_at_call 18; with_reducible exact Later.call (KA1.out _)))) | quiet_step ((first | (go_at_call 23; with_reducible exact Later.call (KR1.out _)) | (go_at_call 24; with_reducible exact Later.call (KR2.out _)) | (go_at_call 18; with_reducible exact Later.call (KA1.out _)))))); (refine wpQuiet_nil ?_; rintro _ ⟨u, rfl⟩)
    clear z0 z1 z2 z3 z4 z5 z6 z7 z8 z9 z10 KR1 KR2 KA1
    replace R2 := Lib.hid (R2.out.later u)
    replace HB := Lib.hid (HB.out.trans (u.below.mono HB.out.size))
    generalize u.w = wu at *
    obtain ⟨x0, x1, x2, x3, x4, x5, x6, x7, x8, x9, x10⟩ := R2.out.c11
    go_wp2_with (go_at_call 24; ((with_reducible refine (KQ.out _ HB.out).mono ?_); rintro e w9 ⟨rfl, hb⟩; replace HB := Lib.hid (HB.out.trans (hb.mono HB.out.size)); clear hb))
    go_ret
    exact ⟨rfl, HB2.out.trans (HB.out.mono HB2.out.size)⟩
  | true =>
    have hk := hdL_true' e1
    have eb : bytesL ⟨fpa, fht, fro, ftx, fpr, fva, fval, fvo, fad, frd, fse⟩ = ((recL ⟨fpa, fht, fro, ftx, fpr, fva, fval, fvo, fad, frd, fse⟩).1, 0) := by rw [bytesL_ok hk N1.out, (rec_ok hk N1.out).1]
    have ei : idL ⟨fpa, fht, fro, ftx, fpr, fva, fval, fvo, fad, frd, fse⟩ = ((idL ⟨fpa, fht, fro, ftx, fpr, fva, fval, fvo, fad, frd, fse⟩).1, 0) := by unfold idL sealL; rw [inR_hdL, e1]; rfl
    have es : sealL ⟨fpa, fht, fro, ftx, fpr, fva, fval, fvo, fad, frd, fse⟩ = ((sealL ⟨fpa, fht, fro, ftx, fpr, fva, fval, fvo, fad, frd, fse⟩).1, 0) := by unfold sealL; rw [e1]; rfl
    have et : turnL ⟨fpa, fht, fro, ftx, fpr, fva, fval, fvo, fad, frd, fse⟩ = ((turnL ⟨fpa, fht, fro, ftx, fpr, fva, fval, fvo, fad, frd, fse⟩).1, 0) := by unfold turnL; rw [e1]; rfl
    rw [eb] at KB
    rw [ei] at KI
    rw [es] at KS
    rw [et] at KT
    rw [e1] at KR KQ
    have JB := Lib.hid fun W (hb : Below W2.heap.size W2 W) => record_ref _ _ _ W (HA.out.below hb) N1.out hk
    have JI := Lib.hid fun W (hb : Below W2.heap.size W2 W) => rid_any _ _ _ W (HA.out.below hb) N1.out hk
    have JS := Lib.hid fun W (hb : Below W2.heap.size W2 W) => rseal_any _ _ _ W (HA.out.below hb) N1.out hk
    have JT := Lib.hid fun W (hb : Below W2.heap.size W2 W) => rturn_any _ _ _ W (HA.out.below hb) N1.out hk
    dsimp only [hdV, hdc] at JB JI JS JT KB KI KS KT
    replace KB := Lib.hid KB
    replace KI := Lib.hid KI
    replace KS := Lib.hid KS
    replace KT := Lib.hid KT
    replace KR := Lib.hid KR
    replace KQ := Lib.hid KQ
    clear eb ei es et e1 hk
    generalize mkS (recL ⟨fpa, fht, fro, ftx, fpr, fva, fval, fvo, fad, frd, fse⟩).1 = sB at *
    generalize mkS (idL ⟨fpa, fht, fro, ftx, fpr, fva, fval, fvo, fad, frd, fse⟩).1 = sI at *
    generalize mkS (sealL ⟨fpa, fht, fro, ftx, fpr, fva, fval, fvo, fad, frd, fse⟩).1 = sS at *
    generalize mkS (turnL ⟨fpa, fht, fro, ftx, fpr, fva, fval, fvo, fad, frd, fse⟩).1 = sT at *
    go_upto_region 6 with (first
      | (go_at_call 17; ((with_reducible refine (KB.out _ HB.out).mono ?_); rintro e w3 ⟨rfl, hb⟩; replace R2 := Lib.hid (R2.out.belowS hb); replace HB := Lib.hid (HB.out.trans (hb.mono HB.out.size)); clear hb x0 x1 x2 x3 x4 x5 x6 x7 x8 x9 x10; obtain ⟨x0, x1, x2, x3, x4, x5, x6, x7, x8, x9, x10⟩ := R2.out.c11))
      | (go_at_call 20; ((with_reducible refine (KI.out _ HB.out).mono ?_); rintro e w4 ⟨rfl, hb⟩; replace R2 := Lib.hid (R2.out.belowS hb); replace HB := Lib.hid (HB.out.trans (hb.mono HB.out.size)); clear hb x0 x1 x2 x3 x4 x5 x6 x7 x8 x9 x10; obtain ⟨x0, x1, x2, x3, x4, x5, x6, x7, x8, x9, x10⟩ := R2.out.c11))
      | (go_at_call 21; ((with_reducible refine (KS.out _ HB.out).mono ?_); rintro e w5 ⟨rfl, hb⟩; replace R2 := Lib.hid (R2.out.belowS hb); replace HB := Lib.hid (HB.out.trans (hb.mono HB.out.size)); clear hb x0 x1 x2 x3 x4 x5 x6 x7 x8 x9 x10; obtain ⟨x0, x1, x2, x3, x4, x5, x6, x7, x8, x9, x10⟩ := R2.out.c11))
      | (go_at_call 22; ((with_reducible refine (KT.out _ HB.out).mono ?_); rintro e w6 ⟨rfl, hb⟩; replace R2 := Lib.hid (R2.out.belowS hb); replace HB := Lib.hid (HB.out.trans (hb.mono HB.out.size)); clear hb x0 x1 x2 x3 x4 x5 x6 x7 x8 x9 x10; obtain ⟨x0, x1, x2, x3, x4, x5, x6, x7, x8, x9, x10⟩ := R2.out.c11)))
    clear x0 x1 x2 x3 x4 x5 x6 x7 x8 x9 x10
    have z0 := fun u : Later w6 => (R2.out.later u).cell 0
    have z1 := fun u : Later w6 => (R2.out.later u).cell 1
    have z2 := fun u : Later w6 => (R2.out.later u).cell 2
    have z3 := fun u : Later w6 => (R2.out.later u).cell 3
    have z4 := fun u : Later w6 => (R2.out.later u).cell 4
    have z5 := fun u : Later w6 => (R2.out.later u).cell 5
    have z6 := fun u : Later w6 => (R2.out.later u).cell 6
    have z7 := fun u : Later w6 => (R2.out.later u).cell 7
    have z8 := fun u : Later w6 => (R2.out.later u).cell 8
    have z9 := fun u : Later w6 => (R2.out.later u).cell 9
    have z10 := fun u : Later w6 => (R2.out.later u).cell 10
    have KR1 : Hid (∀ u : Later w6, Calls Try.prog 23 #[.agg #[(.string fpa), (.int .u64 fht), (.string fro), (.string ftx), (.string fpr), (.string fva), (.slice ps1 fval.length cs1), (.string fvo), (.bool fad), (.int .u64 frd), (.slice pg1 fse.length cg1)]] u.w fun e w' => e = .returned (.bool true) ∧ Below u.w.heap.size u.w w') := Lib.hid fun u => KR.out _ (HB.out.trans (u.below.mono HB.out.size))
    have KR2 : Hid (∀ u : Later w6, Calls Try.prog 24 #[.agg #[(.string fpa), (.int .u64 fht), (.string fro), (.string ftx), (.string fpr), (.string fva), (.slice ps1 fval.length cs1), (.string fvo), (.bool fad), (.int .u64 frd), (.slice pg1 fse.length cg1)]] u.w fun e w' => e = .returned (.bool true) ∧ Below u.w.heap.size u.w w') := Lib.hid fun u => KQ.out _ (HB.out.trans (u.below.mono HB.out.size))
    have KA1 : Hid (∀ u : Later w6, Calls Try.prog 18 #[] u.w fun e w' => e = .returned (.bool true) ∧ Below u.w.heap.size u.w w') := Lib.hid fun u => KA.out _
    (refine region_later mix ?hB ?_; case hB => kernel_rfl); (repeat (first | go_big_quiet_step ((first | (go_at_call 23; with_reducible exact Later.call (KR1.out _)) | (go_at_call 24; with_reducible exact Later.call (KR2.out _)) | (go_at_call 18; with_reducible exact Later.call (KA1.out _)))) | quiet_step ((first | (go_at_call 23; with_reducible exact Later.call (KR1.out _)) | (go_at_call 24; with_reducible exact Later.call (KR2.out _)) | (go_at_call 18; with_reducible exact Later.call (KA1.out _)))))); (refine wpQuiet_nil ?_; rintro _ ⟨u, rfl⟩)
    clear z0 z1 z2 z3 z4 z5 z6 z7 z8 z9 z10 KR1 KR2 KA1
    replace R2 := Lib.hid (R2.out.later u)
    replace HB := Lib.hid (HB.out.trans (u.below.mono HB.out.size))
    generalize u.w = wu at *
    obtain ⟨x0, x1, x2, x3, x4, x5, x6, x7, x8, x9, x10⟩ := R2.out.c11
    go_wp2_with (first
      | (go_at_call 24; ((with_reducible refine (KQ.out _ HB.out).mono ?_); rintro e w9 ⟨rfl, hb⟩; replace R2 := Lib.hid (R2.out.belowS hb); replace HB := Lib.hid (HB.out.trans (hb.mono HB.out.size)); clear hb x0 x1 x2 x3 x4 x5 x6 x7 x8 x9 x10; obtain ⟨x0, x1, x2, x3, x4, x5, x6, x7, x8, x9, x10⟩ := R2.out.c11))
      | (go_at_call 25; ((with_reducible refine (JB.out _ HB.out).mono ?_); rintro e wa ⟨rfl, hb⟩; replace R2 := Lib.hid (R2.out.belowS hb); replace HB := Lib.hid (HB.out.trans (hb.mono HB.out.size)); clear hb x0 x1 x2 x3 x4 x5 x6 x7 x8 x9 x10; obtain ⟨x0, x1, x2, x3, x4, x5, x6, x7, x8, x9, x10⟩ := R2.out.c11))
      | (go_at_call 26; ((with_reducible refine (JI.out _ HB.out).mono ?_); rintro e wb ⟨rfl, hb⟩; replace R2 := Lib.hid (R2.out.belowS hb); replace HB := Lib.hid (HB.out.trans (hb.mono HB.out.size)); clear hb x0 x1 x2 x3 x4 x5 x6 x7 x8 x9 x10; obtain ⟨x0, x1, x2, x3, x4, x5, x6, x7, x8, x9, x10⟩ := R2.out.c11))
      | (go_at_call 27; ((with_reducible refine (JS.out _ HB.out).mono ?_); rintro e wc ⟨rfl, hb⟩; replace R2 := Lib.hid (R2.out.belowS hb); replace HB := Lib.hid (HB.out.trans (hb.mono HB.out.size)); clear hb x0 x1 x2 x3 x4 x5 x6 x7 x8 x9 x10; obtain ⟨x0, x1, x2, x3, x4, x5, x6, x7, x8, x9, x10⟩ := R2.out.c11))
      | (go_at_call 28; ((with_reducible refine (JT.out _ HB.out).mono ?_); rintro e wd ⟨rfl, hb⟩; replace R2 := Lib.hid (R2.out.belowS hb); replace HB := Lib.hid (HB.out.trans (hb.mono HB.out.size)); clear hb x0 x1 x2 x3 x4 x5 x6 x7 x8 x9 x10; obtain ⟨x0, x1, x2, x3, x4, x5, x6, x7, x8, x9, x10⟩ := R2.out.c11)))
    go_ret
    exact ⟨rfl, HB2.out.trans (HB.out.mono HB2.out.size)⟩
end Go.Proofs.Ythipnbiilobjeaa

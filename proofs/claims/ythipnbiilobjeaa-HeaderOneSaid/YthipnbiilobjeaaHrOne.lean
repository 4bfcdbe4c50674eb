/- Header: HeaderOne walked. -/
import Derived.Test.YthipnbiilobjeaaHdRep
import Derived.Deep.RegionWith
import Derived.Deep.DeepCutAuto
namespace Go.Proofs.Ythipnbiilobjeaa
open Go.RowKit Go.Shelf
set_option maxRecDepth 100000

theorem fewD_num {h : Hd} (a : HdNum h) : HdNum (fewD h) := a
theorem fewD_len (h : Hd) : (fewD h).val.length ≤ 1000 ∧ (fewD h).se.length ≤ 1000 := by
  unfold fewD
  simp only [List.length_map, List.length_take]
  omega
/-- A box that holds a header. -/
def HBox (w : World) (b : Nat) (h : Hd) : Prop := ∃ (pv : Option Addr) (cv : Nat) (pg : Option Addr) (cg : Nat), RowAt w b (hdc h (.slice pv h.val.length cv) (.slice pg h.se.length cg)) 36 ∧ HdAt w h (.slice pv h.val.length cv) (.slice pg h.se.length cg)

theorem mkS_ne {l m : List UInt8} (h : l ≠ m) : ((mkS l).toList == (mkS m).toList) = false := seq_false (fun e => h (mk_inj e))
theorem hdL_ok {h : Hd} (e : hdL h = true) : HdOk h := by
  by_cases hh : HdOk h
  · exact hh
  · rw [hdL_false hh] at e; cases e
theorem bytesL_of {h : Hd} {b : Bool} (e : hdL h = b) (hn : HdNum h) : bytesL h = if b = true then ((recL h).1, 0) else ([], 1) := by
  subst e
  cases e : hdL h with
  | false => unfold bytesL; rw [e]; rfl
  | true =>
    rw [if_pos rfl, bytesL_ok (hdL_ok e) hn, (rec_ok (hdL_ok e) hn).1]
set_option maxHeartbeats 8000000 in
theorem headerOne_walk (w : World) (v1 : Value) (h : Hd) (r1 : HdRep w v1 h) (v2 : Value) (k : Hd) (r2 : HdRep w v2 k) :
    Calls Try.prog 4 #[v1, v2] w fun e w' => e = .returned (.bool true) ∧ Below w.heap.size w w' := by
  obtain ⟨sv, gv, rfl, hh, hn, hz, hvs⟩ := r1
  obtain ⟨sv2, gv2, rfl, kh, kn, kz, kvs⟩ := r2
  have K1 : Hid (∀ W, Below w.heap.size w W → Calls Try.prog 16 #[.agg (hdc h sv gv)] W (FewPost2 w (fewD h) W)) := Lib.hid (fun W hb => fewD_any h sv gv W hz w hb hh hvs)
  have K2 : Hid (∀ W, Below w.heap.size w W → Calls Try.prog 16 #[.agg (hdc k sv2 gv2)] W (FewPost2 w (fewD k) W)) := Lib.hid (fun W hb => fewD_any k sv2 gv2 W kz w hb kh kvs)
  have R1 := Lib.hid ((RowAt.new w (hdc h sv gv) 36).alloc (.cells (hdc k sv2 gv2) 36))
  have R2 := Lib.hid (RowAt.new' (w.alloc (.cells (hdc h sv gv) 36)) (hdc k sv2 gv2) 36 (k := w.heap.size + 1) (by simp))
  have HB := Lib.hid (bel2 w (.cells (hdc h sv gv) 36) (.cells (hdc k sv2 gv2) 36))
  have N1 : Hid (HdNum (fewD h)) := Lib.hid (fewD_num hn)
  have N2 : Hid (HdNum (fewD k)) := Lib.hid (fewD_num kn)
  have L1 : Hid ((fewD h).val.length ≤ 1000000) := Lib.hid (by have := (fewD_len h).1; omega)
  have L2 : Hid ((fewD k).val.length ≤ 1000000) := Lib.hid (by have := (fewD_len k).1; omega)
  have KA := Lib.hid (fun W => halive_any W)
  clear hh hn hz hvs kh kn kz kvs
  generalize fewD h = fh at *
  generalize fewD k = fk at *
  obtain ⟨pa, ht, ro, tx, pr, va, val, vo, ad, rd, se⟩ := h
  obtain ⟨pa2, ht2, ro2, tx2, pr2, va2, val2, vo2, ad2, rd2, se2⟩ := k
  obtain ⟨fpa, fht, fro, ftx, fpr, fva, fval, fvo, fad, frd, fse⟩ := fh
  obtain ⟨gpa, ght, gro, gtx, gpr, gva, gval, gvo, gad, grd, gse⟩ := fk
  dsimp only [hdc] at K1 K2
  go_enter Try.func4, Try.ntmps4
  go_upto_region 1 with (fail)
  generalize (w.alloc (.cells (hdc _ sv gv) 36)).alloc (.cells (hdc _ sv2 gv2) 36) = W at *
  replace R1 := Lib.hid R1.out.drew
  replace R2 := Lib.hid R2.out.drew
  have HBc := Lib.hid HB.out.drew
  obtain ⟨x0, x1, x2, x3, x4, x5, x6, x7, x8, x9, x10⟩ := R1.out.c11
  obtain ⟨xf0, xf1, xf2, xf3, xf4, xf5, xf6, xf7, xf8, xf9, xf10⟩ := R1.out.f11
  obtain ⟨y0, y1, y2, y3, y4, y5, y6, y7, y8, y9, y10⟩ := R2.out.c11
  obtain ⟨yf0, yf1, yf2, yf3, yf4, yf5, yf6, yf7, yf8, yf9, yf10⟩ := R2.out.f11
  go_cut [4] (fun t wr => t = .bool false ∧ ∃ w9, w9 = wr ∧ Hid (HBox w9 w.heap.size ⟨fpa, fht, fro, ftx, fpr, fva, fval, fvo, fad, frd, fse⟩ ∧ HBox w9 (w.heap.size + 1) ⟨gpa, ght, gro, gtx, gpr, gva, gval, gvo, gad, grd, gse⟩ ∧ Below w.heap.size w w9))
  case first =>
    go_region_with (first
      | (go_at_call 16; ((with_reducible refine (K1.out _ HBc.out).mono ?_); rintro e w1 ⟨sa1, ga1, rfl, ho1, hg1, hs1, hb⟩; obtain ⟨ps1, cs1, rfl, -, -⟩ := RowE.shape encS (OwnE.row encS ho1); obtain ⟨pg1, cg1, rfl, -, -⟩ := RowE.shape encG hg1; have HO1 := Lib.hid ho1; have HZ1 := Lib.hid R2.out.lt; have HG1 := Lib.hid (And.intro hg1 hs1); have HBc := Lib.hid (HBc.out.trans (hb.mono HBc.out.size)); have R1 := Lib.hid (R1.out.belowS hb); have R2 := Lib.hid (R2.out.belowS hb); (try (have HO2 := Lib.hid (OwnE.below encS HO2.out hb (Nat.le_refl _)))); clear hb ho1 hg1 hs1; clear x0 x1 x2 x3 x4 x5 x6 x7 x8 x9 x10 xf0 xf1 xf2 xf3 xf4 xf5 xf6 xf7 xf8 xf9 xf10 y0 y1 y2 y3 y4 y5 y6 y7 y8 y9 y10 yf0 yf1 yf2 yf3 yf4 yf5 yf6 yf7 yf8 yf9 yf10; obtain ⟨x0, x1, x2, x3, x4, x5, x6, x7, x8, x9, x10⟩ := R1.out.c11; obtain ⟨xf0, xf1, xf2, xf3, xf4, xf5, xf6, xf7, xf8, xf9, xf10⟩ := R1.out.f11; obtain ⟨y0, y1, y2, y3, y4, y5, y6, y7, y8, y9, y10⟩ := R2.out.c11; obtain ⟨yf0, yf1, yf2, yf3, yf4, yf5, yf6, yf7, yf8, yf9, yf10⟩ := R2.out.f11))
      | (go_at_call 16; ((with_reducible refine (K2.out _ HBc.out).mono ?_); rintro e w1 ⟨sa2, ga2, rfl, ho2, hg2, hs2, hb⟩; obtain ⟨ps2, cs2, rfl, -, -⟩ := RowE.shape encS (OwnE.row encS ho2); obtain ⟨pg2, cg2, rfl, -, -⟩ := RowE.shape encG hg2; have HO2 := Lib.hid ho2; have HZ2 := Lib.hid R2.out.lt; have HG2 := Lib.hid (And.intro hg2 hs2); have HBc := Lib.hid (HBc.out.trans (hb.mono HBc.out.size)); have R1 := Lib.hid (R1.out.belowS hb); have R2 := Lib.hid (R2.out.belowS hb); (try (have HO1 := Lib.hid (OwnE.below encS HO1.out hb (Nat.le_refl _)))); clear hb ho2 hg2 hs2; clear x0 x1 x2 x3 x4 x5 x6 x7 x8 x9 x10 xf0 xf1 xf2 xf3 xf4 xf5 xf6 xf7 xf8 xf9 xf10 y0 y1 y2 y3 y4 y5 y6 y7 y8 y9 y10 yf0 yf1 yf2 yf3 yf4 yf5 yf6 yf7 yf8 yf9 yf10; obtain ⟨x0, x1, x2, x3, x4, x5, x6, x7, x8, x9, x10⟩ := R1.out.c11; obtain ⟨xf0, xf1, xf2, xf3, xf4, xf5, xf6, xf7, xf8, xf9, xf10⟩ := R1.out.f11; obtain ⟨y0, y1, y2, y3, y4, y5, y6, y7, y8, y9, y10⟩ := R2.out.c11; obtain ⟨yf0, yf1, yf2, yf3, yf4, yf5, yf6, yf7, yf8, yf9, yf10⟩ := R2.out.f11)))
    all_goals
      go_wp2
      go_meet
      case rel =>
        have hz1 := HZ1.out
        have hz2 := HZ2.out
        refine ⟨rfl, _, rfl, Lib.hid ⟨⟨ps1, cs1, pg1, cg1, RowAt.other11 (RowAt.set11 R1.out _ _ _ _ _ _ _ _ _ _ _) (by omega) _ _ _ _ _ _ _ _ _ _ _, OwnE.row encS (OwnE.setLow11 (OwnE.setLow11 HO1.out (by omega)) (by omega)), RowE.below encG HG1.out.1 (below_set11 (below_set11 HBc.out (by omega) _ _ _ _ _ _ _ _ _ _ _) (by omega) _ _ _ _ _ _ _ _ _ _ _) (Nat.le_refl _), HG1.out.2⟩, ⟨ps2, cs2, pg2, cg2, RowAt.set11 (RowAt.other11 R2.out (by omega) _ _ _ _ _ _ _ _ _ _ _) _ _ _ _ _ _ _ _ _ _ _, OwnE.row encS (OwnE.setLow11 (OwnE.setLow11 HO2.out (by omega)) (by omega)), RowE.below encG HG2.out.1 (below_set11 (below_set11 HBc.out (by omega) _ _ _ _ _ _ _ _ _ _ _) (by omega) _ _ _ _ _ _ _ _ _ _ _) (Nat.le_refl _), HG2.out.2⟩, below_set11 (below_set11 HBc.out (by omega) _ _ _ _ _ _ _ _ _ _ _) (by omega) _ _ _ _ _ _ _ _ _ _ _⟩⟩
  case rest =>
  obtain ⟨rfl, W2, rfl, hcut⟩ := hcut
  clear K1 K2 R1 R2 HBc HB x0 x1 x2 x3 x4 x5 x6 x7 x8 x9 x10 xf0 xf1 xf2 xf3 xf4 xf5 xf6 xf7 xf8 xf9 xf10 y0 y1 y2 y3 y4 y5 y6 y7 y8 y9 y10 yf0 yf1 yf2 yf3 yf4 yf5 yf6 yf7 yf8 yf9 yf10
  obtain ⟨⟨pv1, cv1, pg1, cg1, hr1, ha1⟩, ⟨pv2, cv2, pg2, cg2, hr2, ha2⟩, hbw⟩ := hcut.out
  clear hcut
  have R1 := Lib.hid hr1
  have R2 := Lib.hid hr2
  have HB := Lib.hid (Below.refl W2.heap.size W2)
  have HB2 := Lib.hid hbw
  have KB1 := Lib.hid (fun W (hb : Below W2.heap.size W2 W) => bytes_any _ _ _ W (ha1.below hb) N1.out L1.out)
  have KB2 := Lib.hid (fun W (hb : Below W2.heap.size W2 W) => bytes_any _ _ _ W (ha2.below hb) N2.out L2.out)
  have KL := Lib.hid (fun W (hb : Below W2.heap.size W2 W) => hlike_any _ _ _ _ _ _ W (ha1.below hb) (ha2.below hb))
  have QL : Hid ((hdL ⟨fpa, fht, fro, ftx, fpr, fva, fval, fvo, fad, frd, fse⟩ = true ∧ hdL ⟨gpa, ght, gro, gtx, gpr, gva, gval, gvo, gad, grd, gse⟩ = true) → (((recL ⟨fpa, fht, fro, ftx, fpr, fva, fval, fvo, fad, frd, fse⟩).1 = (recL ⟨gpa, ght, gro, gtx, gpr, gva, gval, gvo, gad, grd, gse⟩).1 ∧ likeH ⟨fpa, fht, fro, ftx, fpr, fva, fval, fvo, fad, frd, fse⟩ ⟨gpa, ght, gro, gtx, gpr, gva, gval, gvo, gad, grd, gse⟩ = true) ∨ ((recL ⟨fpa, fht, fro, ftx, fpr, fva, fval, fvo, fad, frd, fse⟩).1 ≠ (recL ⟨gpa, ght, gro, gtx, gpr, gva, gval, gvo, gad, grd, gse⟩).1 ∧ likeH ⟨fpa, fht, fro, ftx, fpr, fva, fval, fvo, fad, frd, fse⟩ ⟨gpa, ght, gro, gtx, gpr, gva, gval, gvo, gad, grd, gse⟩ = false))) := Lib.hid (fun ⟨a, b⟩ => by
    have := rec_inj (hdL_ok a) (hdL_ok b) N1.out N2.out ha1.2.2 ha2.2.2
    by_cases e : (⟨fpa, fht, fro, ftx, fpr, fva, fval, fvo, fad, frd, fse⟩ : Hd) = ⟨gpa, ght, gro, gtx, gpr, gva, gval, gvo, gad, grd, gse⟩
    · exact .inl ⟨this.2 e, likeH_yes e⟩
    · exact .inr ⟨fun h => e (this.1 h), likeH_no e⟩)
  have B1 : Hid (∀ b, hdL ⟨fpa, fht, fro, ftx, fpr, fva, fval, fvo, fad, frd, fse⟩ = b → bytesL ⟨fpa, fht, fro, ftx, fpr, fva, fval, fvo, fad, frd, fse⟩ = if b = true then ((recL ⟨fpa, fht, fro, ftx, fpr, fva, fval, fvo, fad, frd, fse⟩).1, 0) else ([], 1)) := Lib.hid (fun b e => bytesL_of e N1.out)
  have B2 : Hid (∀ b, hdL ⟨gpa, ght, gro, gtx, gpr, gva, gval, gvo, gad, grd, gse⟩ = b → bytesL ⟨gpa, ght, gro, gtx, gpr, gva, gval, gvo, gad, grd, gse⟩ = if b = true then ((recL ⟨gpa, ght, gro, gtx, gpr, gva, gval, gvo, gad, grd, gse⟩).1, 0) else ([], 1)) := Lib.hid (fun b e => bytesL_of e N2.out)
  clear hr1 hr2 ha1 ha2 hbw N1 N2 L1 L2
  generalize hdL ⟨fpa, fht, fro, ftx, fpr, fva, fval, fvo, fad, frd, fse⟩ = b1 at *
  generalize hdL ⟨gpa, ght, gro, gtx, gpr, gva, gval, gvo, gad, grd, gse⟩ = b2 at *
  generalize (recL ⟨fpa, fht, fro, ftx, fpr, fva, fval, fvo, fad, frd, fse⟩).1 = c1 at *
  generalize (recL ⟨gpa, ght, gro, gtx, gpr, gva, gval, gvo, gad, grd, gse⟩).1 = c2 at *
  have KB1 := Lib.hid (Eq.mp (congrArg (fun r => ∀ W, Below W2.heap.size W2 W → Calls Try.prog 17 #[.agg (hdc ⟨fpa, fht, fro, ftx, fpr, fva, fval, fvo, fad, frd, fse⟩ (.slice pv1 fval.length cv1) (.slice pg1 fse.length cg1))] W fun e w' => e = .returned (.tuple #[.string (mkS r.1), .int .i64 r.2]) ∧ Below W.heap.size W w') (B1.out _ rfl)) KB1.out)
  have KB2 := Lib.hid (Eq.mp (congrArg (fun r => ∀ W, Below W2.heap.size W2 W → Calls Try.prog 17 #[.agg (hdc ⟨gpa, ght, gro, gtx, gpr, gva, gval, gvo, gad, grd, gse⟩ (.slice pv2 gval.length cv2) (.slice pg2 gse.length cg2))] W fun e w' => e = .returned (.tuple #[.string (mkS r.1), .int .i64 r.2]) ∧ Below W.heap.size W w') (B2.out _ rfl)) KB2.out)
  clear B1 B2
  generalize likeH ⟨fpa, fht, fro, ftx, fpr, fva, fval, fvo, fad, frd, fse⟩ ⟨gpa, ght, gro, gtx, gpr, gva, gval, gvo, gad, grd, gse⟩ = lk at *
  obtain ⟨x0, x1, x2, x3, x4, x5, x6, x7, x8, x9, x10⟩ := R1.out.c11
  obtain ⟨y0, y1, y2, y3, y4, y5, y6, y7, y8, y9, y10⟩ := R2.out.c11
  dsimp only [hdc] at KB1 KB2 KL
  have e0 : mkS [] = ⟨#[]⟩ := rfl
  cases b1 <;> cases b2
  · simp only [Bool.false_eq_true, if_false, e0] at KB1 KB2
    clear QL e0
    go_wp2_with (first
      | (go_at_call 17; ((with_reducible refine (KB1.out _ HB.out).mono ?_); rintro e w1 ⟨rfl, hb⟩; have R1 := Lib.hid (R1.out.belowS hb); have R2 := Lib.hid (R2.out.belowS hb); have HB := Lib.hid (HB.out.trans (hb.mono HB.out.size)); clear hb x0 x1 x2 x3 x4 x5 x6 x7 x8 x9 x10 y0 y1 y2 y3 y4 y5 y6 y7 y8 y9 y10; obtain ⟨x0, x1, x2, x3, x4, x5, x6, x7, x8, x9, x10⟩ := R1.out.c11; obtain ⟨y0, y1, y2, y3, y4, y5, y6, y7, y8, y9, y10⟩ := R2.out.c11))
      | (go_at_call 17; ((with_reducible refine (KB2.out _ HB.out).mono ?_); rintro e w2 ⟨rfl, hb⟩; have R1 := Lib.hid (R1.out.belowS hb); have R2 := Lib.hid (R2.out.belowS hb); have HB := Lib.hid (HB.out.trans (hb.mono HB.out.size)); clear hb x0 x1 x2 x3 x4 x5 x6 x7 x8 x9 x10 y0 y1 y2 y3 y4 y5 y6 y7 y8 y9 y10; obtain ⟨x0, x1, x2, x3, x4, x5, x6, x7, x8, x9, x10⟩ := R1.out.c11; obtain ⟨y0, y1, y2, y3, y4, y5, y6, y7, y8, y9, y10⟩ := R2.out.c11))
      | (go_at_call 19; ((with_reducible refine (KL.out _ HB.out).mono ?_); rintro e w3 ⟨rfl, hb⟩; have R1 := Lib.hid (R1.out.belowS hb); have R2 := Lib.hid (R2.out.belowS hb); have HB := Lib.hid (HB.out.trans (hb.mono HB.out.size)); clear hb x0 x1 x2 x3 x4 x5 x6 x7 x8 x9 x10 y0 y1 y2 y3 y4 y5 y6 y7 y8 y9 y10; obtain ⟨x0, x1, x2, x3, x4, x5, x6, x7, x8, x9, x10⟩ := R1.out.c11; obtain ⟨y0, y1, y2, y3, y4, y5, y6, y7, y8, y9, y10⟩ := R2.out.c11))
      | (go_at_call 18; ((with_reducible refine (KA.out _).mono ?_); rintro e w4 ⟨rfl, hb⟩; have R1 := Lib.hid (R1.out.belowS hb); have R2 := Lib.hid (R2.out.belowS hb); have HB := Lib.hid (HB.out.trans (hb.mono HB.out.size)); clear hb x0 x1 x2 x3 x4 x5 x6 x7 x8 x9 x10 y0 y1 y2 y3 y4 y5 y6 y7 y8 y9 y10; obtain ⟨x0, x1, x2, x3, x4, x5, x6, x7, x8, x9, x10⟩ := R1.out.c11; obtain ⟨y0, y1, y2, y3, y4, y5, y6, y7, y8, y9, y10⟩ := R2.out.c11)))
    go_ret
    exact ⟨rfl, HB2.out.trans (HB.out.mono HB2.out.size)⟩
  · simp only [Bool.false_eq_true, if_false, if_true, e0] at KB1 KB2
    clear QL e0
    go_wp2_with (first
      | (go_at_call 17; ((with_reducible refine (KB1.out _ HB.out).mono ?_); rintro e w1 ⟨rfl, hb⟩; have R1 := Lib.hid (R1.out.belowS hb); have R2 := Lib.hid (R2.out.belowS hb); have HB := Lib.hid (HB.out.trans (hb.mono HB.out.size)); clear hb x0 x1 x2 x3 x4 x5 x6 x7 x8 x9 x10 y0 y1 y2 y3 y4 y5 y6 y7 y8 y9 y10; obtain ⟨x0, x1, x2, x3, x4, x5, x6, x7, x8, x9, x10⟩ := R1.out.c11; obtain ⟨y0, y1, y2, y3, y4, y5, y6, y7, y8, y9, y10⟩ := R2.out.c11))
      | (go_at_call 17; ((with_reducible refine (KB2.out _ HB.out).mono ?_); rintro e w2 ⟨rfl, hb⟩; have R1 := Lib.hid (R1.out.belowS hb); have R2 := Lib.hid (R2.out.belowS hb); have HB := Lib.hid (HB.out.trans (hb.mono HB.out.size)); clear hb x0 x1 x2 x3 x4 x5 x6 x7 x8 x9 x10 y0 y1 y2 y3 y4 y5 y6 y7 y8 y9 y10; obtain ⟨x0, x1, x2, x3, x4, x5, x6, x7, x8, x9, x10⟩ := R1.out.c11; obtain ⟨y0, y1, y2, y3, y4, y5, y6, y7, y8, y9, y10⟩ := R2.out.c11))
      | (go_at_call 19; ((with_reducible refine (KL.out _ HB.out).mono ?_); rintro e w3 ⟨rfl, hb⟩; have R1 := Lib.hid (R1.out.belowS hb); have R2 := Lib.hid (R2.out.belowS hb); have HB := Lib.hid (HB.out.trans (hb.mono HB.out.size)); clear hb x0 x1 x2 x3 x4 x5 x6 x7 x8 x9 x10 y0 y1 y2 y3 y4 y5 y6 y7 y8 y9 y10; obtain ⟨x0, x1, x2, x3, x4, x5, x6, x7, x8, x9, x10⟩ := R1.out.c11; obtain ⟨y0, y1, y2, y3, y4, y5, y6, y7, y8, y9, y10⟩ := R2.out.c11))
      | (go_at_call 18; ((with_reducible refine (KA.out _).mono ?_); rintro e w4 ⟨rfl, hb⟩; have R1 := Lib.hid (R1.out.belowS hb); have R2 := Lib.hid (R2.out.belowS hb); have HB := Lib.hid (HB.out.trans (hb.mono HB.out.size)); clear hb x0 x1 x2 x3 x4 x5 x6 x7 x8 x9 x10 y0 y1 y2 y3 y4 y5 y6 y7 y8 y9 y10; obtain ⟨x0, x1, x2, x3, x4, x5, x6, x7, x8, x9, x10⟩ := R1.out.c11; obtain ⟨y0, y1, y2, y3, y4, y5, y6, y7, y8, y9, y10⟩ := R2.out.c11)))
    go_ret
    exact ⟨rfl, HB2.out.trans (HB.out.mono HB2.out.size)⟩
  · simp only [Bool.false_eq_true, if_false, if_true, e0] at KB1 KB2
    clear QL e0
    go_wp2_with (first
      | (go_at_call 17; ((with_reducible refine (KB1.out _ HB.out).mono ?_); rintro e w1 ⟨rfl, hb⟩; have R1 := Lib.hid (R1.out.belowS hb); have R2 := Lib.hid (R2.out.belowS hb); have HB := Lib.hid (HB.out.trans (hb.mono HB.out.size)); clear hb x0 x1 x2 x3 x4 x5 x6 x7 x8 x9 x10 y0 y1 y2 y3 y4 y5 y6 y7 y8 y9 y10; obtain ⟨x0, x1, x2, x3, x4, x5, x6, x7, x8, x9, x10⟩ := R1.out.c11; obtain ⟨y0, y1, y2, y3, y4, y5, y6, y7, y8, y9, y10⟩ := R2.out.c11))
      | (go_at_call 17; ((with_reducible refine (KB2.out _ HB.out).mono ?_); rintro e w2 ⟨rfl, hb⟩; have R1 := Lib.hid (R1.out.belowS hb); have R2 := Lib.hid (R2.out.belowS hb); have HB := Lib.hid (HB.out.trans (hb.mono HB.out.size)); clear hb x0 x1 x2 x3 x4 x5 x6 x7 x8 x9 x10 y0 y1 y2 y3 y4 y5 y6 y7 y8 y9 y10; obtain ⟨x0, x1, x2, x3, x4, x5, x6, x7, x8, x9, x10⟩ := R1.out.c11; obtain ⟨y0, y1, y2, y3, y4, y5, y6, y7, y8, y9, y10⟩ := R2.out.c11))
      | (go_at_call 19; ((with_reducible refine (KL.out _ HB.out).mono ?_); rintro e w3 ⟨rfl, hb⟩; have R1 := Lib.hid (R1.out.belowS hb); have R2 := Lib.hid (R2.out.belowS hb); have HB := Lib.hid (HB.out.trans (hb.mono HB.out.size)); clear hb x0 x1 x2 x3 x4 x5 x6 x7 x8 x9 x10 y0 y1 y2 y3 y4 y5 y6 y7 y8 y9 y10; obtain ⟨x0, x1, x2, x3, x4, x5, x6, x7, x8, x9, x10⟩ := R1.out.c11; obtain ⟨y0, y1, y2, y3, y4, y5, y6, y7, y8, y9, y10⟩ := R2.out.c11))
      | (go_at_call 18; ((with_reducible refine (KA.out _).mono ?_); rintro e w4 ⟨rfl, hb⟩; have R1 := Lib.hid (R1.out.belowS hb); have R2 := Lib.hid (R2.out.belowS hb); have HB := Lib.hid (HB.out.trans (hb.mono HB.out.size)); clear hb x0 x1 x2 x3 x4 x5 x6 x7 x8 x9 x10 y0 y1 y2 y3 y4 y5 y6 y7 y8 y9 y10; obtain ⟨x0, x1, x2, x3, x4, x5, x6, x7, x8, x9, x10⟩ := R1.out.c11; obtain ⟨y0, y1, y2, y3, y4, y5, y6, y7, y8, y9, y10⟩ := R2.out.c11)))
    go_ret
    exact ⟨rfl, HB2.out.trans (HB.out.mono HB2.out.size)⟩
  · simp only [if_true] at KB1 KB2
    rcases QL.out ⟨rfl, rfl⟩ with ⟨e1, e2⟩ | ⟨e1, e2⟩
    · subst e1 e2
      clear QL e0
      generalize mkS c1 = s1 at *
      go_wp2_with (first
        | (go_at_call 17; ((with_reducible refine (KB1.out _ HB.out).mono ?_); rintro e w1 ⟨rfl, hb⟩; have R1 := Lib.hid (R1.out.belowS hb); have R2 := Lib.hid (R2.out.belowS hb); have HB := Lib.hid (HB.out.trans (hb.mono HB.out.size)); clear hb x0 x1 x2 x3 x4 x5 x6 x7 x8 x9 x10 y0 y1 y2 y3 y4 y5 y6 y7 y8 y9 y10; obtain ⟨x0, x1, x2, x3, x4, x5, x6, x7, x8, x9, x10⟩ := R1.out.c11; obtain ⟨y0, y1, y2, y3, y4, y5, y6, y7, y8, y9, y10⟩ := R2.out.c11))
        | (go_at_call 17; ((with_reducible refine (KB2.out _ HB.out).mono ?_); rintro e w2 ⟨rfl, hb⟩; have R1 := Lib.hid (R1.out.belowS hb); have R2 := Lib.hid (R2.out.belowS hb); have HB := Lib.hid (HB.out.trans (hb.mono HB.out.size)); clear hb x0 x1 x2 x3 x4 x5 x6 x7 x8 x9 x10 y0 y1 y2 y3 y4 y5 y6 y7 y8 y9 y10; obtain ⟨x0, x1, x2, x3, x4, x5, x6, x7, x8, x9, x10⟩ := R1.out.c11; obtain ⟨y0, y1, y2, y3, y4, y5, y6, y7, y8, y9, y10⟩ := R2.out.c11))
        | (go_at_call 19; ((with_reducible refine (KL.out _ HB.out).mono ?_); rintro e w3 ⟨rfl, hb⟩; have R1 := Lib.hid (R1.out.belowS hb); have R2 := Lib.hid (R2.out.belowS hb); have HB := Lib.hid (HB.out.trans (hb.mono HB.out.size)); clear hb x0 x1 x2 x3 x4 x5 x6 x7 x8 x9 x10 y0 y1 y2 y3 y4 y5 y6 y7 y8 y9 y10; obtain ⟨x0, x1, x2, x3, x4, x5, x6, x7, x8, x9, x10⟩ := R1.out.c11; obtain ⟨y0, y1, y2, y3, y4, y5, y6, y7, y8, y9, y10⟩ := R2.out.c11))
        | (go_at_call 18; ((with_reducible refine (KA.out _).mono ?_); rintro e w4 ⟨rfl, hb⟩; have R1 := Lib.hid (R1.out.belowS hb); have R2 := Lib.hid (R2.out.belowS hb); have HB := Lib.hid (HB.out.trans (hb.mono HB.out.size)); clear hb x0 x1 x2 x3 x4 x5 x6 x7 x8 x9 x10 y0 y1 y2 y3 y4 y5 y6 y7 y8 y9 y10; obtain ⟨x0, x1, x2, x3, x4, x5, x6, x7, x8, x9, x10⟩ := R1.out.c11; obtain ⟨y0, y1, y2, y3, y4, y5, y6, y7, y8, y9, y10⟩ := R2.out.c11)))
      go_ret
      exact ⟨rfl, HB2.out.trans (HB.out.mono HB2.out.size)⟩
    · subst e2
      have hne : ((mkS c1).toList == (mkS c2).toList) = false := mkS_ne e1
      clear QL e0 e1
      generalize mkS c1 = s1 at *
      generalize mkS c2 = s2 at *
      go_wp2_with (first
        | (go_at_call 17; ((with_reducible refine (KB1.out _ HB.out).mono ?_); rintro e w1 ⟨rfl, hb⟩; have R1 := Lib.hid (R1.out.belowS hb); have R2 := Lib.hid (R2.out.belowS hb); have HB := Lib.hid (HB.out.trans (hb.mono HB.out.size)); clear hb x0 x1 x2 x3 x4 x5 x6 x7 x8 x9 x10 y0 y1 y2 y3 y4 y5 y6 y7 y8 y9 y10; obtain ⟨x0, x1, x2, x3, x4, x5, x6, x7, x8, x9, x10⟩ := R1.out.c11; obtain ⟨y0, y1, y2, y3, y4, y5, y6, y7, y8, y9, y10⟩ := R2.out.c11))
        | (go_at_call 17; ((with_reducible refine (KB2.out _ HB.out).mono ?_); rintro e w2 ⟨rfl, hb⟩; have R1 := Lib.hid (R1.out.belowS hb); have R2 := Lib.hid (R2.out.belowS hb); have HB := Lib.hid (HB.out.trans (hb.mono HB.out.size)); clear hb x0 x1 x2 x3 x4 x5 x6 x7 x8 x9 x10 y0 y1 y2 y3 y4 y5 y6 y7 y8 y9 y10; obtain ⟨x0, x1, x2, x3, x4, x5, x6, x7, x8, x9, x10⟩ := R1.out.c11; obtain ⟨y0, y1, y2, y3, y4, y5, y6, y7, y8, y9, y10⟩ := R2.out.c11))
        | (go_at_call 19; ((with_reducible refine (KL.out _ HB.out).mono ?_); rintro e w3 ⟨rfl, hb⟩; have R1 := Lib.hid (R1.out.belowS hb); have R2 := Lib.hid (R2.out.belowS hb); have HB := Lib.hid (HB.out.trans (hb.mono HB.out.size)); clear hb x0 x1 x2 x3 x4 x5 x6 x7 x8 x9 x10 y0 y1 y2 y3 y4 y5 y6 y7 y8 y9 y10; obtain ⟨x0, x1, x2, x3, x4, x5, x6, x7, x8, x9, x10⟩ := R1.out.c11; obtain ⟨y0, y1, y2, y3, y4, y5, y6, y7, y8, y9, y10⟩ := R2.out.c11))
        | (go_at_call 18; ((with_reducible refine (KA.out _).mono ?_); rintro e w4 ⟨rfl, hb⟩; have R1 := Lib.hid (R1.out.belowS hb); have R2 := Lib.hid (R2.out.belowS hb); have HB := Lib.hid (HB.out.trans (hb.mono HB.out.size)); clear hb x0 x1 x2 x3 x4 x5 x6 x7 x8 x9 x10 y0 y1 y2 y3 y4 y5 y6 y7 y8 y9 y10; obtain ⟨x0, x1, x2, x3, x4, x5, x6, x7, x8, x9, x10⟩ := R1.out.c11; obtain ⟨y0, y1, y2, y3, y4, y5, y6, y7, y8, y9, y10⟩ := R2.out.c11)))
      go_ret
      exact ⟨rfl, HB2.out.trans (HB.out.mono HB2.out.size)⟩
end Go.Proofs.Ythipnbiilobjeaa

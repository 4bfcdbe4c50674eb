/- Frame: one field as an item (given a list's contract). Frame: one field as an item: bytes, lists. Frame: one field as an item: lists; all of it. -/
import Derived.BigQuiet
import Derived.Deep.DeepCutAuto
import Derived.Test.YtefmlbckbhlgdaaRa7
import Derived.Test.YtefmlbckbhlgdaaRa8
namespace Go.Proofs.Ytefmlbckbhlgdaa
open Go.RowKit
theorem itemPost_ok {w w' : World} {l : Bool} {b : List UInt8} {r : Option It} {is : Bool} (hb : Below w.heap.size w w') (h : (r = none ∧ is = false) ∨ (r = some (.mk l b []) ∧ is = true)) : ItemPost r w (.returned (.tuple #[.agg #[.bool l, .string (mkS b), .slice none 0 0], .bool is])) w' :=
  ⟨l, b, none, 0, 0, is, rfl, hb, h.imp id fun h => ⟨[], h.1, h.2, RowT.nil⟩⟩
theorem int0 (n : Nat) : (((n : Nat) : Int) == 0) = decide (n = 0) := by
  by_cases h : n = 0
  · simp [h]
  · simp [h]
theorem mkS_nil (b : List UInt8) : ((mkS b).toList = []) ↔ b = [] := by rw [toList_bl, bl_mk]
theorem RowAt.lw3 {W : World} {k : Nat} {v0 v1 v2 : Value} {T : TypeId} (h : RowAt W k #[v0, v1, v2] T) : (∀ u : Later W, u.w.cell? ⟨k, 0, none⟩ = some v0) ∧ (∀ u : Later W, u.w.cell? ⟨k, 1, none⟩ = some v1) ∧ (∀ u : Later W, u.w.cell? ⟨k, 2, none⟩ = some v2) ∧
    (∀ u : Later W, u.w.frozen? ⟨k, 0, none⟩ = false) ∧ (∀ u : Later W, u.w.frozen? ⟨k, 1, none⟩ = false) ∧ (∀ u : Later W, u.w.frozen? ⟨k, 2, none⟩ = false) :=
  ⟨fun u => (h.later u).cell 0, fun u => (h.later u).cell 1, fun u => (h.later u).cell 2, fun u => (h.later u).frozen 0, fun u => (h.later u).frozen 1, fun u => (h.later u).frozen 2⟩
set_option maxRecDepth 100000 in
set_option maxHeartbeats 4000000 in
theorem item_num (c : UInt8) (hc : c = 110) (ks : List Kd) (s : Sl) (fn : Nat) (fb : List UInt8) (fk : List Fd) (s' : Sl) (w : World) (hn : fn < 18446744073709551616) (hF : FieldAt w (.mk (fn, fb) fk) s') :
    Calls Try.prog 146 #[kV c s, fV (fn, fb) s'] w (ItemPost (itemK (.mk c ks) (.mk (fn, fb) fk)) w) := by
  have KN := fun W => number_any fn W hn
  have HR : Hid (itemK (.mk c ks) (.mk (fn, fb) fk) = if fb = [] ∧ fk = [] then some (.mk false (dig fn) []) else none) := Lib.hid (by rw [itemK, if_pos hc])
  generalize itemK (.mk c ks) (.mk (fn, fb) fk) = res at *
  generalize dig fn = D at *
  replace KN := Lib.hid KN
  have q1 : ((c.toNat : Int) == 110) = true := by rw [hc]; rfl
  clear hc
  obtain ⟨pk, nk, ck⟩ := s
  obtain ⟨pf, nf, cf⟩ := s'
  obtain ⟨hnf, f1, f2⟩ := RowT.sane hF
  replace hnf : nf = fk.length := hnf
  subst hnf
  unfold maxLen at f2
  simp only [kV, fV, slV] at *
  have R2 := Lib.hid (((RowAt.new w #[.int .u8 c.toNat, .slice pk nk ck] 111).alloc (.cells #[.int .u64 (fn : Int), .string (mkS fb), .slice pf fk.length cf] 64)).alloc (.cells #[.bool false, .string ⟨#[]⟩, .slice none 0 0] 98))
  have R3 := Lib.hid ((RowAt.new' (w.alloc (.cells #[.int .u8 c.toNat, .slice pk nk ck] 111)) #[.int .u64 (fn : Int), .string (mkS fb), .slice pf fk.length cf] 64 (k := w.heap.size + 1) (by simp)).alloc (.cells #[.bool false, .string ⟨#[]⟩, .slice none 0 0] 98))
  have R4 := Lib.hid (RowAt.new' ((w.alloc (.cells #[.int .u8 c.toNat, .slice pk nk ck] 111)).alloc (.cells #[.int .u64 (fn : Int), .string (mkS fb), .slice pf fk.length cf] 64)) #[.bool false, .string ⟨#[]⟩, .slice none 0 0] 98 (k := w.heap.size + 1 + 1) (by simp))
  have HB := Lib.hid (bel3 w (.cells #[.int .u8 c.toNat, .slice pk nk ck] 111) (.cells #[.int .u64 (fn : Int), .string (mkS fb), .slice pf fk.length cf] 64) (.cells #[.bool false, .string ⟨#[]⟩, .slice none 0 0] 98))
  have dn := int0 fn
  have dl := int0 fk.length
  have db := mkS_nil fb
  clear hF
  go_enter Try.func146, Try.ntmps146
  go_upto_region 1 with (fail)
  generalize ((w.alloc (.cells #[.int .u8 c.toNat, .slice pk nk ck] 111)).alloc (.cells #[.int .u64 (fn : Int), .string (mkS fb), .slice pf fk.length cf] 64)).alloc (.cells #[.bool false, .string ⟨#[]⟩, .slice none 0 0] 98) = W at *
  obtain ⟨x0, x1, xf0, xf1⟩ := R2.out.c2
  obtain ⟨y0, y1, y2, yf0, yf1, yf2⟩ := R3.out.c3
  go_cut [6] (fun t wr => t = .bool (decide (fn = 0) && decide (fk.length = 0)) ∧ W = wr)
  case first =>
    by_cases h1 : fn = 0
    · rw [decide_eq_true h1] at dn
      have H1 := Lib.hid h1
      clear h1
      go_wp2
      go_meet
      case rel => exact ⟨by simp [H1.out], rfl⟩
    · rw [decide_eq_false h1] at dn
      have H1 := Lib.hid h1
      clear h1
      go_wp2
      go_meet
      case rel => exact ⟨by simp [H1.out], rfl⟩
  case rest =>
  obtain ⟨rfl, rfl⟩ := hcut
  clear dn
  generalize (decide (fn = 0) && decide (fk.length = 0)) = bz
  by_cases h3 : fb = []
  · have dbb : (mkS fb).toList = [] := db.2 h3
    by_cases h2 : fk.length = 0
    · rw [decide_eq_true h2] at dl
      have H2 := Lib.hid h2
      have H3 := Lib.hid h3
      clear h2 h3 db
      go_upto_region 4 with (fail)
      clear x0 x1 xf0 xf1 y0 y1 y2 yf0 yf1 yf2
      have z := R4.out.lw3
      obtain ⟨z0, z1, z2, zf0, zf1, zf2⟩ := z
      have y := RowAt.lb3 (size3 W (w.heap.size + 1 + 1) (.bool false) (.string (mkS D)) (.slice none 0 0)) R3.out (R3.out.other3 (k := w.heap.size + 1 + 1) (.bool false) (.string (mkS D)) (.slice none 0 0) (by omega))
      obtain ⟨y0, y1, y2⟩ := y
      have HLT := R4.out.lt
      (refine region_once 12 (((W.setCell ⟨w.heap.size + 1 + 1, 0, none⟩ (.bool false)).setCell ⟨w.heap.size + 1 + 1, 1, none⟩ (.string (mkS D))).setCell ⟨w.heap.size + 1 + 1, 2, none⟩ (.slice none 0 0)) mix ?hB ?hS ?_; case hB => kernel_rfl); (case hS => exact size3 _ _ _ _ _); (iterate 12 ((with_reducible refine once_step ?hkk ?_); (case hkk => rfl); intro K hK; go_simp; (first | (with_reducible refine hK _ ?_; clear hK K) | (apply Exists.intro; refine ⟨fun u => ?_, hK _ ?_⟩; ((go_at_call 169; exact LB.call (size3 _ _ _ _ _) (KN.out _))); clear hK K)))); (refine once_store rfl rfl (fun u => ?_) ?_; (go_simp; exact Later.set3 HLT _ _ _ u)); go_simp; (iterate 1 ((with_reducible refine once_step ?hkk ?_); (case hkk => rfl); intro K hK; go_simp; (first | (with_reducible refine hK _ ?_; clear hK K) | (apply Exists.intro; refine ⟨fun u => ?_, hK _ ?_⟩; ((go_at_call 169; exact LB.call (size3 _ _ _ _ _) (KN.out _))); clear hK K)))); (with_reducible refine once_nil ?_; intro u)
      clear y0 y1 y2 z0 z1 z2 zf0 zf1 zf2
      go_wp2
      obtain ⟨r, bb⟩ := box3 R4.out HB.out (Nat.le_trans (Nat.le_succ _) (Nat.le_succ _)) (.bool false) (.string (mkS D)) (.slice none 0 0)
      obtain ⟨e0, e1, e2, _⟩ := (r.later u).c3
      refine bodyPost_ret (v := .tuple #[.agg #[.bool false, .string (mkS D), .slice none 0 0], .bool true]) (by simp [results, Try.results146, go_sem, e0, e1, e2]) rfl ?_
      exact itemPost_ok (bb.trans (u.below.mono bb.size)) (.inr ⟨by rw [HR.out, if_pos ⟨H3.out, List.eq_nil_of_length_eq_zero H2.out⟩], rfl⟩)
    · rw [decide_eq_false h2] at dl
      have H2 := Lib.hid h2
      have H3 := Lib.hid h3
      clear h2 h3 db
      go_upto_region 4 with (fail)
      clear x0 x1 xf0 xf1 y0 y1 y2 yf0 yf1 yf2
      have z := R4.out.lw3
      obtain ⟨z0, z1, z2, zf0, zf1, zf2⟩ := z
      have y := RowAt.lb3 (size3 W (w.heap.size + 1 + 1) (.bool false) (.string (mkS D)) (.slice none 0 0)) R3.out (R3.out.other3 (k := w.heap.size + 1 + 1) (.bool false) (.string (mkS D)) (.slice none 0 0) (by omega))
      obtain ⟨y0, y1, y2⟩ := y
      have HLT := R4.out.lt
      (refine region_once 12 (((W.setCell ⟨w.heap.size + 1 + 1, 0, none⟩ (.bool false)).setCell ⟨w.heap.size + 1 + 1, 1, none⟩ (.string (mkS D))).setCell ⟨w.heap.size + 1 + 1, 2, none⟩ (.slice none 0 0)) mix ?hB ?hS ?_; case hB => kernel_rfl); (case hS => exact size3 _ _ _ _ _); (iterate 12 ((with_reducible refine once_step ?hkk ?_); (case hkk => rfl); intro K hK; go_simp; (first | (with_reducible refine hK _ ?_; clear hK K) | (apply Exists.intro; refine ⟨fun u => ?_, hK _ ?_⟩; ((go_at_call 169; exact LB.call (size3 _ _ _ _ _) (KN.out _))); clear hK K)))); (refine once_store rfl rfl (fun u => ?_) ?_; (go_simp; exact Later.set3 HLT _ _ _ u)); go_simp; (iterate 1 ((with_reducible refine once_step ?hkk ?_); (case hkk => rfl); intro K hK; go_simp; (first | (with_reducible refine hK _ ?_; clear hK K) | (apply Exists.intro; refine ⟨fun u => ?_, hK _ ?_⟩; ((go_at_call 169; exact LB.call (size3 _ _ _ _ _) (KN.out _))); clear hK K)))); (with_reducible refine once_nil ?_; intro u)
      clear y0 y1 y2 z0 z1 z2 zf0 zf1 zf2
      go_wp2
      obtain ⟨r, bb⟩ := box3 R4.out HB.out (Nat.le_trans (Nat.le_succ _) (Nat.le_succ _)) (.bool false) (.string (mkS D)) (.slice none 0 0)
      obtain ⟨e0, e1, e2, _⟩ := (r.later u).c3
      refine bodyPost_ret (v := .tuple #[.agg #[.bool false, .string (mkS D), .slice none 0 0], .bool false]) (by simp [results, Try.results146, go_sem, e0, e1, e2]) rfl ?_
      exact itemPost_ok (bb.trans (u.below.mono bb.size)) (.inl ⟨by rw [HR.out, if_neg (fun h => H2.out (by rw [h.2]; rfl))], rfl⟩)
  · have dbb : ¬ (mkS fb).toList = [] := fun h => h3 (db.1 h)
    have dbe : (mkS fb).toList.isEmpty = false := by simpa using dbb
    have H3 := Lib.hid h3
    clear h3 db dl
    go_upto_region 4 with (fail)
    clear x0 x1 xf0 xf1 y0 y1 y2 yf0 yf1 yf2
    have z := R4.out.lw3
    obtain ⟨z0, z1, z2, zf0, zf1, zf2⟩ := z
    have y := RowAt.lb3 (size3 W (w.heap.size + 1 + 1) (.bool false) (.string (mkS D)) (.slice none 0 0)) R3.out (R3.out.other3 (k := w.heap.size + 1 + 1) (.bool false) (.string (mkS D)) (.slice none 0 0) (by omega))
    obtain ⟨y0, y1, y2⟩ := y
    have HLT := R4.out.lt
    (refine region_once 12 (((W.setCell ⟨w.heap.size + 1 + 1, 0, none⟩ (.bool false)).setCell ⟨w.heap.size + 1 + 1, 1, none⟩ (.string (mkS D))).setCell ⟨w.heap.size + 1 + 1, 2, none⟩ (.slice none 0 0)) mix ?hB ?hS ?_; case hB => kernel_rfl); (case hS => exact size3 _ _ _ _ _); (iterate 12 ((with_reducible refine once_step ?hkk ?_); (case hkk => rfl); intro K hK; go_simp; (first | (with_reducible refine hK _ ?_; clear hK K) | (apply Exists.intro; refine ⟨fun u => ?_, hK _ ?_⟩; ((go_at_call 169; exact LB.call (size3 _ _ _ _ _) (KN.out _))); clear hK K)))); (refine once_store rfl rfl (fun u => ?_) ?_; (go_simp; exact Later.set3 HLT _ _ _ u)); go_simp; (iterate 1 ((with_reducible refine once_step ?hkk ?_); (case hkk => rfl); intro K hK; go_simp; (first | (with_reducible refine hK _ ?_; clear hK K) | (apply Exists.intro; refine ⟨fun u => ?_, hK _ ?_⟩; ((go_at_call 169; exact LB.call (size3 _ _ _ _ _) (KN.out _))); clear hK K)))); (with_reducible refine once_nil ?_; intro u)
    clear y0 y1 y2 z0 z1 z2 zf0 zf1 zf2
    go_wp2
    obtain ⟨r, bb⟩ := box3 R4.out HB.out (Nat.le_trans (Nat.le_succ _) (Nat.le_succ _)) (.bool false) (.string (mkS D)) (.slice none 0 0)
    obtain ⟨e0, e1, e2, _⟩ := (r.later u).c3
    refine bodyPost_ret (v := .tuple #[.agg #[.bool false, .string (mkS D), .slice none 0 0], .bool false]) (by simp [results, Try.results146, go_sem, e0, e1, e2]) rfl ?_
    exact itemPost_ok (bb.trans (u.below.mono bb.size)) (.inl ⟨by rw [HR.out, if_neg (fun h => H3.out h.1)], rfl⟩)
end Go.Proofs.Ytefmlbckbhlgdaa
namespace Go.Proofs.Ytefmlbckbhlgdaa
open Go.RowKit
theorem mkS_size (b : List UInt8) : (mkS b).size = b.length := by rw [← bl_length, bl_mk]
set_option maxRecDepth 100000 in
set_option maxHeartbeats 4000000 in
theorem item_bytes (c : UInt8) (hc : c = 98) (ks : List Kd) (s : Sl) (fn : Nat) (fb : List UInt8) (fk : List Fd) (s' : Sl) (w : World) (hF : FieldAt w (.mk (fn, fb) fk) s') :
    Calls Try.prog 146 #[kV c s, fV (fn, fb) s'] w (ItemPost (itemK (.mk c ks) (.mk (fn, fb) fk)) w) := by
  have HR : Hid (itemK (.mk c ks) (.mk (fn, fb) fk) = if fn = 0 ∧ fk = [] ∧ fb.length ≤ 64 then some (.mk false fb []) else none) := Lib.hid (by rw [itemK, if_neg (by rw [hc]; decide), if_pos hc])
  generalize itemK (.mk c ks) (.mk (fn, fb) fk) = res at *
  have q110 : ((c.toNat : Int) == 110) = false := c8_ne (n := 110) (by omega) (by rw [hc]; decide)
  have q98 : ((c.toNat : Int) == 98) = true := by rw [hc]; rfl
  clear hc
  obtain ⟨pk, nk, ck⟩ := s
  obtain ⟨pf, nf, cf⟩ := s'
  obtain ⟨hnf, f1, f2⟩ := RowT.sane hF
  replace hnf : nf = fk.length := hnf
  subst hnf
  unfold maxLen at f2
  simp only [kV, fV, slV] at *
  have R2 := Lib.hid (((RowAt.new w #[.int .u8 c.toNat, .slice pk nk ck] 111).alloc (.cells #[.int .u64 (fn : Int), .string (mkS fb), .slice pf fk.length cf] 64)).alloc (.cells #[.bool false, .string ⟨#[]⟩, .slice none 0 0] 98))
  have R3 := Lib.hid ((RowAt.new' (w.alloc (.cells #[.int .u8 c.toNat, .slice pk nk ck] 111)) #[.int .u64 (fn : Int), .string (mkS fb), .slice pf fk.length cf] 64 (k := w.heap.size + 1) (by simp)).alloc (.cells #[.bool false, .string ⟨#[]⟩, .slice none 0 0] 98))
  have R4 := Lib.hid (RowAt.new' ((w.alloc (.cells #[.int .u8 c.toNat, .slice pk nk ck] 111)).alloc (.cells #[.int .u64 (fn : Int), .string (mkS fb), .slice pf fk.length cf] 64)) #[.bool false, .string ⟨#[]⟩, .slice none 0 0] 98 (k := w.heap.size + 1 + 1) (by simp))
  have HB := Lib.hid (bel3 w (.cells #[.int .u8 c.toNat, .slice pk nk ck] 111) (.cells #[.int .u64 (fn : Int), .string (mkS fb), .slice pf fk.length cf] 64) (.cells #[.bool false, .string ⟨#[]⟩, .slice none 0 0] 98))
  have dn := int0 fn
  have dl := int0 fk.length
  have hsz := mkS_size fb
  clear hF
  go_enter Try.func146, Try.ntmps146
  go_upto_region 1 with (fail)
  generalize ((w.alloc (.cells #[.int .u8 c.toNat, .slice pk nk ck] 111)).alloc (.cells #[.int .u64 (fn : Int), .string (mkS fb), .slice pf fk.length cf] 64)).alloc (.cells #[.bool false, .string ⟨#[]⟩, .slice none 0 0] 98) = W at *
  obtain ⟨x0, x1, xf0, xf1⟩ := R2.out.c2
  obtain ⟨y0, y1, y2, yf0, yf1, yf2⟩ := R3.out.c3
  go_cut [6] (fun t wr => t = .bool (decide (fn = 0) && decide (fk.length = 0)) ∧ W = wr)
  case first =>
    by_cases h1 : fn = 0
    · rw [decide_eq_true h1] at dn
      have H1 := Lib.hid h1
      clear h1
      go_wp2
      go_meet
      case rel => exact ⟨by simp [H1.out], rfl⟩
    · rw [decide_eq_false h1] at dn
      have H1 := Lib.hid h1
      clear h1
      go_wp2
      go_meet
      case rel => exact ⟨by simp [H1.out], rfl⟩
  case rest =>
  obtain ⟨rfl, rfl⟩ := hcut
  by_cases h2 : fb.length ≤ 64
  · have q2 : ((mkS fb).size : Int) ≤ 64 := by omega
    have H2 := Lib.hid h2
    clear h2 hsz
    clear dn
    by_cases h1 : fn = 0 ∧ fk.length = 0
    · have hb1 : (decide (fn = 0) && decide (fk.length = 0)) = true := by simp [h1.1, h1.2]
      rw [hb1]
      have H1 := Lib.hid h1
      clear h1 hb1
      go_upto_region 6 with (fail)
      clear x0 x1 xf0 xf1 y0 y1 y2 yf0 yf1 yf2
      have z := R4.out.lw3
      obtain ⟨z0, z1, z2, zf0, zf1, zf2⟩ := z
      have y := RowAt.lb3 (size3 W (w.heap.size + 1 + 1) (.bool false) (.string (mkS fb)) (.slice none 0 0)) R3.out (R3.out.other3 (k := w.heap.size + 1 + 1) (.bool false) (.string (mkS fb)) (.slice none 0 0) (by omega))
      obtain ⟨y0, y1, y2⟩ := y
      have x := RowAt.lb2 (size3 W (w.heap.size + 1 + 1) (.bool false) (.string (mkS fb)) (.slice none 0 0)) R2.out (R2.out.other3 (k := w.heap.size + 1 + 1) (.bool false) (.string (mkS fb)) (.slice none 0 0) (by omega))
      obtain ⟨x0, x1⟩ := x
      have HLT := R4.out.lt
      (refine region_once 10 (((W.setCell ⟨w.heap.size + 1 + 1, 0, none⟩ (.bool false)).setCell ⟨w.heap.size + 1 + 1, 1, none⟩ (.string (mkS fb))).setCell ⟨w.heap.size + 1 + 1, 2, none⟩ (.slice none 0 0)) mix ?hB ?hS ?_; case hB => kernel_rfl); (case hS => exact size3 _ _ _ _ _); (iterate 10 ((with_reducible refine once_step ?hkk ?_); (case hkk => rfl); intro K hK; go_simp; (first | (with_reducible refine hK _ ?_; clear hK K) | (apply Exists.intro; refine ⟨fun u => ?_, hK _ ?_⟩; (fail); clear hK K)))); (refine once_store rfl rfl (fun u => ?_) ?_; (go_simp; exact Later.set3 HLT _ _ _ u)); go_simp; (iterate 1 ((with_reducible refine once_step ?hkk ?_); (case hkk => rfl); intro K hK; go_simp; (first | (with_reducible refine hK _ ?_; clear hK K) | (apply Exists.intro; refine ⟨fun u => ?_, hK _ ?_⟩; (fail); clear hK K)))); (with_reducible refine once_nil ?_; intro u)
      clear x0 x1 y0 y1 y2 z0 z1 z2 zf0 zf1 zf2
      go_wp2
      obtain ⟨r, bb⟩ := box3 R4.out HB.out (Nat.le_trans (Nat.le_succ _) (Nat.le_succ _)) (.bool false) (.string (mkS fb)) (.slice none 0 0)
      obtain ⟨e0, e1, e2, _⟩ := (r.later u).c3
      refine bodyPost_ret (v := .tuple #[.agg #[.bool false, .string (mkS fb), .slice none 0 0], .bool true]) (by simp [results, Try.results146, go_sem, e0, e1, e2]) rfl ?_
      exact itemPost_ok (bb.trans (u.below.mono bb.size)) (.inr ⟨by rw [HR.out, if_pos ⟨H1.out.1, List.eq_nil_of_length_eq_zero H1.out.2, H2.out⟩], rfl⟩)
    · have hb1 : (decide (fn = 0) && decide (fk.length = 0)) = false := by
        by_cases e : fn = 0
        · simp only [e, true_and] at h1 ⊢
          simp only [h1, decide_true, decide_false, Bool.true_and]
        · simp [e]
      rw [hb1]
      have H1 := Lib.hid h1
      clear h1 hb1
      go_upto_region 6 with (fail)
      clear x0 x1 xf0 xf1 y0 y1 y2 yf0 yf1 yf2
      have z := R4.out.lw3
      obtain ⟨z0, z1, z2, zf0, zf1, zf2⟩ := z
      have y := RowAt.lb3 (size3 W (w.heap.size + 1 + 1) (.bool false) (.string (mkS fb)) (.slice none 0 0)) R3.out (R3.out.other3 (k := w.heap.size + 1 + 1) (.bool false) (.string (mkS fb)) (.slice none 0 0) (by omega))
      obtain ⟨y0, y1, y2⟩ := y
      have x := RowAt.lb2 (size3 W (w.heap.size + 1 + 1) (.bool false) (.string (mkS fb)) (.slice none 0 0)) R2.out (R2.out.other3 (k := w.heap.size + 1 + 1) (.bool false) (.string (mkS fb)) (.slice none 0 0) (by omega))
      obtain ⟨x0, x1⟩ := x
      have HLT := R4.out.lt
      (refine region_once 10 (((W.setCell ⟨w.heap.size + 1 + 1, 0, none⟩ (.bool false)).setCell ⟨w.heap.size + 1 + 1, 1, none⟩ (.string (mkS fb))).setCell ⟨w.heap.size + 1 + 1, 2, none⟩ (.slice none 0 0)) mix ?hB ?hS ?_; case hB => kernel_rfl); (case hS => exact size3 _ _ _ _ _); (iterate 10 ((with_reducible refine once_step ?hkk ?_); (case hkk => rfl); intro K hK; go_simp; (first | (with_reducible refine hK _ ?_; clear hK K) | (apply Exists.intro; refine ⟨fun u => ?_, hK _ ?_⟩; (fail); clear hK K)))); (refine once_store rfl rfl (fun u => ?_) ?_; (go_simp; exact Later.set3 HLT _ _ _ u)); go_simp; (iterate 1 ((with_reducible refine once_step ?hkk ?_); (case hkk => rfl); intro K hK; go_simp; (first | (with_reducible refine hK _ ?_; clear hK K) | (apply Exists.intro; refine ⟨fun u => ?_, hK _ ?_⟩; (fail); clear hK K)))); (with_reducible refine once_nil ?_; intro u)
      clear x0 x1 y0 y1 y2 z0 z1 z2 zf0 zf1 zf2
      go_wp2
      obtain ⟨r, bb⟩ := box3 R4.out HB.out (Nat.le_trans (Nat.le_succ _) (Nat.le_succ _)) (.bool false) (.string (mkS fb)) (.slice none 0 0)
      obtain ⟨e0, e1, e2, _⟩ := (r.later u).c3
      refine bodyPost_ret (v := .tuple #[.agg #[.bool false, .string (mkS fb), .slice none 0 0], .bool false]) (by simp [results, Try.results146, go_sem, e0, e1, e2]) rfl ?_
      exact itemPost_ok (bb.trans (u.below.mono bb.size)) (.inl ⟨by rw [HR.out, if_neg (fun h => H1.out ⟨h.1, by rw [h.2.1]; rfl⟩)], rfl⟩)

  · have q2 : ¬ ((mkS fb).size : Int) ≤ 64 := by omega
    have H2 := Lib.hid h2
    clear h2 hsz
    clear dn
    by_cases h1 : fn = 0 ∧ fk.length = 0
    · have hb1 : (decide (fn = 0) && decide (fk.length = 0)) = true := by simp [h1.1, h1.2]
      rw [hb1]
      have H1 := Lib.hid h1
      clear h1 hb1
      go_upto_region 6 with (fail)
      clear x0 x1 xf0 xf1 y0 y1 y2 yf0 yf1 yf2
      have z := R4.out.lw3
      obtain ⟨z0, z1, z2, zf0, zf1, zf2⟩ := z
      have y := RowAt.lb3 (size3 W (w.heap.size + 1 + 1) (.bool false) (.string (mkS fb)) (.slice none 0 0)) R3.out (R3.out.other3 (k := w.heap.size + 1 + 1) (.bool false) (.string (mkS fb)) (.slice none 0 0) (by omega))
      obtain ⟨y0, y1, y2⟩ := y
      have x := RowAt.lb2 (size3 W (w.heap.size + 1 + 1) (.bool false) (.string (mkS fb)) (.slice none 0 0)) R2.out (R2.out.other3 (k := w.heap.size + 1 + 1) (.bool false) (.string (mkS fb)) (.slice none 0 0) (by omega))
      obtain ⟨x0, x1⟩ := x
      have HLT := R4.out.lt
      (refine region_once 10 (((W.setCell ⟨w.heap.size + 1 + 1, 0, none⟩ (.bool false)).setCell ⟨w.heap.size + 1 + 1, 1, none⟩ (.string (mkS fb))).setCell ⟨w.heap.size + 1 + 1, 2, none⟩ (.slice none 0 0)) mix ?hB ?hS ?_; case hB => kernel_rfl); (case hS => exact size3 _ _ _ _ _); (iterate 10 ((with_reducible refine once_step ?hkk ?_); (case hkk => rfl); intro K hK; go_simp; (first | (with_reducible refine hK _ ?_; clear hK K) | (apply Exists.intro; refine ⟨fun u => ?_, hK _ ?_⟩; (fail); clear hK K)))); (refine once_store rfl rfl (fun u => ?_) ?_; (go_simp; exact Later.set3 HLT _ _ _ u)); go_simp; (iterate 1 ((with_reducible refine once_step ?hkk ?_); (case hkk => rfl); intro K hK; go_simp; (first | (with_reducible refine hK _ ?_; clear hK K) | (apply Exists.intro; refine ⟨fun u => ?_, hK _ ?_⟩; (fail); clear hK K)))); (with_reducible refine once_nil ?_; intro u)
      clear x0 x1 y0 y1 y2 z0 z1 z2 zf0 zf1 zf2
      go_wp2
      obtain ⟨r, bb⟩ := box3 R4.out HB.out (Nat.le_trans (Nat.le_succ _) (Nat.le_succ _)) (.bool false) (.string (mkS fb)) (.slice none 0 0)
      obtain ⟨e0, e1, e2, _⟩ := (r.later u).c3
      refine bodyPost_ret (v := .tuple #[.agg #[.bool false, .string (mkS fb), .slice none 0 0], .bool false]) (by simp [results, Try.results146, go_sem, e0, e1, e2]) rfl ?_
      exact itemPost_ok (bb.trans (u.below.mono bb.size)) (.inl ⟨by rw [HR.out, if_neg (fun h => H2.out h.2.2)], rfl⟩)
    · have hb1 : (decide (fn = 0) && decide (fk.length = 0)) = false := by
        by_cases e : fn = 0
        · simp only [e, true_and] at h1 ⊢
          simp only [h1, decide_true, decide_false, Bool.true_and]
        · simp [e]
      rw [hb1]
      have H1 := Lib.hid h1
      clear h1 hb1
      go_upto_region 6 with (fail)
      clear x0 x1 xf0 xf1 y0 y1 y2 yf0 yf1 yf2
      have z := R4.out.lw3
      obtain ⟨z0, z1, z2, zf0, zf1, zf2⟩ := z
      have y := RowAt.lb3 (size3 W (w.heap.size + 1 + 1) (.bool false) (.string (mkS fb)) (.slice none 0 0)) R3.out (R3.out.other3 (k := w.heap.size + 1 + 1) (.bool false) (.string (mkS fb)) (.slice none 0 0) (by omega))
      obtain ⟨y0, y1, y2⟩ := y
      have x := RowAt.lb2 (size3 W (w.heap.size + 1 + 1) (.bool false) (.string (mkS fb)) (.slice none 0 0)) R2.out (R2.out.other3 (k := w.heap.size + 1 + 1) (.bool false) (.string (mkS fb)) (.slice none 0 0) (by omega))
      obtain ⟨x0, x1⟩ := x
      have HLT := R4.out.lt
      (refine region_once 10 (((W.setCell ⟨w.heap.size + 1 + 1, 0, none⟩ (.bool false)).setCell ⟨w.heap.size + 1 + 1, 1, none⟩ (.string (mkS fb))).setCell ⟨w.heap.size + 1 + 1, 2, none⟩ (.slice none 0 0)) mix ?hB ?hS ?_; case hB => kernel_rfl); (case hS => exact size3 _ _ _ _ _); (iterate 10 ((with_reducible refine once_step ?hkk ?_); (case hkk => rfl); intro K hK; go_simp; (first | (with_reducible refine hK _ ?_; clear hK K) | (apply Exists.intro; refine ⟨fun u => ?_, hK _ ?_⟩; (fail); clear hK K)))); (refine once_store rfl rfl (fun u => ?_) ?_; (go_simp; exact Later.set3 HLT _ _ _ u)); go_simp; (iterate 1 ((with_reducible refine once_step ?hkk ?_); (case hkk => rfl); intro K hK; go_simp; (first | (with_reducible refine hK _ ?_; clear hK K) | (apply Exists.intro; refine ⟨fun u => ?_, hK _ ?_⟩; (fail); clear hK K)))); (with_reducible refine once_nil ?_; intro u)
      clear x0 x1 y0 y1 y2 z0 z1 z2 zf0 zf1 zf2
      go_wp2
      obtain ⟨r, bb⟩ := box3 R4.out HB.out (Nat.le_trans (Nat.le_succ _) (Nat.le_succ _)) (.bool false) (.string (mkS fb)) (.slice none 0 0)
      obtain ⟨e0, e1, e2, _⟩ := (r.later u).c3
      refine bodyPost_ret (v := .tuple #[.agg #[.bool false, .string (mkS fb), .slice none 0 0], .bool false]) (by simp [results, Try.results146, go_sem, e0, e1, e2]) rfl ?_
      exact itemPost_ok (bb.trans (u.below.mono bb.size)) (.inl ⟨by rw [HR.out, if_neg (fun h => H2.out h.2.2)], rfl⟩)

set_option maxRecDepth 100000 in
set_option maxHeartbeats 4000000 in
theorem item_sized (c : UInt8) (h110 : c ≠ 110) (h98 : c ≠ 98) (h42 : c ≠ 42) (h40 : c ≠ 40) (ks : List Kd) (s : Sl) (fn : Nat) (fb : List UInt8) (fk : List Fd) (s' : Sl) (w : World) (hF : FieldAt w (.mk (fn, fb) fk) s') :
    Calls Try.prog 146 #[kV c s, fV (fn, fb) s'] w (ItemPost (itemK (.mk c ks) (.mk (fn, fb) fk)) w) := by
  have HR : Hid (itemK (.mk c ks) (.mk (fn, fb) fk) = if fn = 0 ∧ fk = [] ∧ (fb.length : Int) = sizeK c then some (.mk false fb []) else none) := Lib.hid (by rw [itemK, if_neg h110, if_neg h98, if_neg h42, if_neg h40])
  generalize itemK (.mk c ks) (.mk (fn, fb) fk) = res at *
  have q110 : ((c.toNat : Int) == 110) = false := c8_ne (n := 110) (by omega) h110
  have q98 : ((c.toNat : Int) == 98) = false := c8_ne (n := 98) (by omega) h98
  have q42 : ((c.toNat : Int) == 42) = false := c8_ne (n := 42) (by omega) h42
  have q40 : ((c.toNat : Int) == 40) = false := c8_ne (n := 40) (by omega) h40
  clear h110 h98 h42 h40
  obtain ⟨pk, nk, ck⟩ := s
  obtain ⟨pf, nf, cf⟩ := s'
  obtain ⟨hnf, f1, f2⟩ := RowT.sane hF
  replace hnf : nf = fk.length := hnf
  subst hnf
  unfold maxLen at f2
  simp only [kV, fV, slV] at *
  have R2 := Lib.hid (((RowAt.new w #[.int .u8 c.toNat, .slice pk nk ck] 111).alloc (.cells #[.int .u64 (fn : Int), .string (mkS fb), .slice pf fk.length cf] 64)).alloc (.cells #[.bool false, .string ⟨#[]⟩, .slice none 0 0] 98))
  have R3 := Lib.hid ((RowAt.new' (w.alloc (.cells #[.int .u8 c.toNat, .slice pk nk ck] 111)) #[.int .u64 (fn : Int), .string (mkS fb), .slice pf fk.length cf] 64 (k := w.heap.size + 1) (by simp)).alloc (.cells #[.bool false, .string ⟨#[]⟩, .slice none 0 0] 98))
  have R4 := Lib.hid (RowAt.new' ((w.alloc (.cells #[.int .u8 c.toNat, .slice pk nk ck] 111)).alloc (.cells #[.int .u64 (fn : Int), .string (mkS fb), .slice pf fk.length cf] 64)) #[.bool false, .string ⟨#[]⟩, .slice none 0 0] 98 (k := w.heap.size + 1 + 1) (by simp))
  have HB := Lib.hid (bel3 w (.cells #[.int .u8 c.toNat, .slice pk nk ck] 111) (.cells #[.int .u64 (fn : Int), .string (mkS fb), .slice pf fk.length cf] 64) (.cells #[.bool false, .string ⟨#[]⟩, .slice none 0 0] 98))
  have dn := int0 fn
  have dl := int0 fk.length
  have hsz := mkS_size fb
  clear hF
  go_enter Try.func146, Try.ntmps146
  go_upto_region 1 with (fail)
  generalize ((w.alloc (.cells #[.int .u8 c.toNat, .slice pk nk ck] 111)).alloc (.cells #[.int .u64 (fn : Int), .string (mkS fb), .slice pf fk.length cf] 64)).alloc (.cells #[.bool false, .string ⟨#[]⟩, .slice none 0 0] 98) = W at *
  obtain ⟨x0, x1, xf0, xf1⟩ := R2.out.c2
  obtain ⟨y0, y1, y2, yf0, yf1, yf2⟩ := R3.out.c3
  go_cut [6] (fun t wr => t = .bool (decide (fn = 0) && decide (fk.length = 0)) ∧ W = wr)
  case first =>
    by_cases h1 : fn = 0
    · rw [decide_eq_true h1] at dn
      have H1 := Lib.hid h1
      clear h1
      go_wp2
      go_meet
      case rel => exact ⟨by simp [H1.out], rfl⟩
    · rw [decide_eq_false h1] at dn
      have H1 := Lib.hid h1
      clear h1
      go_wp2
      go_meet
      case rel => exact ⟨by simp [H1.out], rfl⟩
  case rest =>
  obtain ⟨rfl, rfl⟩ := hcut
  by_cases h2 : (fb.length : Int) = sizeK c
  · have q2 : (((mkS fb).size : Int) == sizeK c) = true := by rw [hsz]; simpa using h2
    have H2 := Lib.hid h2
    clear h2 hsz
    clear dn
    by_cases h1 : fn = 0 ∧ fk.length = 0
    · have hb1 : (decide (fn = 0) && decide (fk.length = 0)) = true := by simp [h1.1, h1.2]
      rw [hb1]
      have H1 := Lib.hid h1
      clear h1 hb1
      go_upto_region 11 with (fail)
      clear x0 x1 xf0 xf1 y0 y1 y2 yf0 yf1 yf2
      have z := R4.out.lw3
      obtain ⟨z0, z1, z2, zf0, zf1, zf2⟩ := z
      have y := RowAt.lb3 (size3 W (w.heap.size + 1 + 1) (.bool false) (.string (mkS fb)) (.slice none 0 0)) R3.out (R3.out.other3 (k := w.heap.size + 1 + 1) (.bool false) (.string (mkS fb)) (.slice none 0 0) (by omega))
      obtain ⟨y0, y1, y2⟩ := y
      have x := RowAt.lb2 (size3 W (w.heap.size + 1 + 1) (.bool false) (.string (mkS fb)) (.slice none 0 0)) R2.out (R2.out.other3 (k := w.heap.size + 1 + 1) (.bool false) (.string (mkS fb)) (.slice none 0 0) (by omega))
      obtain ⟨x0, x1⟩ := x
      have HLT := R4.out.lt
      (refine region_once 13 (((W.setCell ⟨w.heap.size + 1 + 1, 0, none⟩ (.bool false)).setCell ⟨w.heap.size + 1 + 1, 1, none⟩ (.string (mkS fb))).setCell ⟨w.heap.size + 1 + 1, 2, none⟩ (.slice none 0 0)) mix ?hB ?hS ?_; case hB => kernel_rfl); (case hS => exact size3 _ _ _ _ _); (iterate 13 ((with_reducible refine once_step ?hkk ?_); (case hkk => rfl); intro K hK; go_simp; (first | (with_reducible refine hK _ ?_; clear hK K) | (apply Exists.intro; refine ⟨fun u => ?_, hK _ ?_⟩; (((go_at_call 170); exact LB.callSame (sizes_any _ _))); clear hK K)))); (refine once_store rfl rfl (fun u => ?_) ?_; (go_simp; exact Later.set3 HLT _ _ _ u)); go_simp; (iterate 1 ((with_reducible refine once_step ?hkk ?_); (case hkk => rfl); intro K hK; go_simp; (first | (with_reducible refine hK _ ?_; clear hK K) | (apply Exists.intro; refine ⟨fun u => ?_, hK _ ?_⟩; (((go_at_call 170); exact LB.callSame (sizes_any _ _))); clear hK K)))); (with_reducible refine once_nil ?_; intro u)
      clear x0 x1 y0 y1 y2 z0 z1 z2 zf0 zf1 zf2
      go_wp2
      obtain ⟨r, bb⟩ := box3 R4.out HB.out (Nat.le_trans (Nat.le_succ _) (Nat.le_succ _)) (.bool false) (.string (mkS fb)) (.slice none 0 0)
      obtain ⟨e0, e1, e2, _⟩ := (r.later u).c3
      refine bodyPost_ret (v := .tuple #[.agg #[.bool false, .string (mkS fb), .slice none 0 0], .bool true]) (by simp [results, Try.results146, go_sem, e0, e1, e2]) rfl ?_
      exact itemPost_ok (bb.trans (u.below.mono bb.size)) (.inr ⟨by rw [HR.out, if_pos ⟨H1.out.1, List.eq_nil_of_length_eq_zero H1.out.2, H2.out⟩], rfl⟩)
    · have hb1 : (decide (fn = 0) && decide (fk.length = 0)) = false := by
        by_cases e : fn = 0
        · simp only [e, true_and] at h1 ⊢
          simp only [h1, decide_true, decide_false, Bool.true_and]
        · simp [e]
      rw [hb1]
      have H1 := Lib.hid h1
      clear h1 hb1
      go_upto_region 11 with (fail)
      clear x0 x1 xf0 xf1 y0 y1 y2 yf0 yf1 yf2
      have z := R4.out.lw3
      obtain ⟨z0, z1, z2, zf0, zf1, zf2⟩ := z
      have y := RowAt.lb3 (size3 W (w.heap.size + 1 + 1) (.bool false) (.string (mkS fb)) (.slice none 0 0)) R3.out (R3.out.other3 (k := w.heap.size + 1 + 1) (.bool false) (.string (mkS fb)) (.slice none 0 0) (by omega))
      obtain ⟨y0, y1, y2⟩ := y
      have x := RowAt.lb2 (size3 W (w.heap.size + 1 + 1) (.bool false) (.string (mkS fb)) (.slice none 0 0)) R2.out (R2.out.other3 (k := w.heap.size + 1 + 1) (.bool false) (.string (mkS fb)) (.slice none 0 0) (by omega))
      obtain ⟨x0, x1⟩ := x
      have HLT := R4.out.lt
      (refine region_once 13 (((W.setCell ⟨w.heap.size + 1 + 1, 0, none⟩ (.bool false)).setCell ⟨w.heap.size + 1 + 1, 1, none⟩ (.string (mkS fb))).setCell ⟨w.heap.size + 1 + 1, 2, none⟩ (.slice none 0 0)) mix ?hB ?hS ?_; case hB => kernel_rfl); (case hS => exact size3 _ _ _ _ _); (iterate 13 ((with_reducible refine once_step ?hkk ?_); (case hkk => rfl); intro K hK; go_simp; (first | (with_reducible refine hK _ ?_; clear hK K) | (apply Exists.intro; refine ⟨fun u => ?_, hK _ ?_⟩; (((go_at_call 170); exact LB.callSame (sizes_any _ _))); clear hK K)))); (refine once_store rfl rfl (fun u => ?_) ?_; (go_simp; exact Later.set3 HLT _ _ _ u)); go_simp; (iterate 1 ((with_reducible refine once_step ?hkk ?_); (case hkk => rfl); intro K hK; go_simp; (first | (with_reducible refine hK _ ?_; clear hK K) | (apply Exists.intro; refine ⟨fun u => ?_, hK _ ?_⟩; (((go_at_call 170); exact LB.callSame (sizes_any _ _))); clear hK K)))); (with_reducible refine once_nil ?_; intro u)
      clear x0 x1 y0 y1 y2 z0 z1 z2 zf0 zf1 zf2
      go_wp2
      obtain ⟨r, bb⟩ := box3 R4.out HB.out (Nat.le_trans (Nat.le_succ _) (Nat.le_succ _)) (.bool false) (.string (mkS fb)) (.slice none 0 0)
      obtain ⟨e0, e1, e2, _⟩ := (r.later u).c3
      refine bodyPost_ret (v := .tuple #[.agg #[.bool false, .string (mkS fb), .slice none 0 0], .bool false]) (by simp [results, Try.results146, go_sem, e0, e1, e2]) rfl ?_
      exact itemPost_ok (bb.trans (u.below.mono bb.size)) (.inl ⟨by rw [HR.out, if_neg (fun h => H1.out ⟨h.1, by rw [h.2.1]; rfl⟩)], rfl⟩)

  · have q2 : (((mkS fb).size : Int) == sizeK c) = false := by rw [hsz]; simpa using h2
    have H2 := Lib.hid h2
    clear h2 hsz
    clear dn
    by_cases h1 : fn = 0 ∧ fk.length = 0
    · have hb1 : (decide (fn = 0) && decide (fk.length = 0)) = true := by simp [h1.1, h1.2]
      rw [hb1]
      have H1 := Lib.hid h1
      clear h1 hb1
      go_upto_region 11 with (fail)
      clear x0 x1 xf0 xf1 y0 y1 y2 yf0 yf1 yf2
      have z := R4.out.lw3
      obtain ⟨z0, z1, z2, zf0, zf1, zf2⟩ := z
      have y := RowAt.lb3 (size3 W (w.heap.size + 1 + 1) (.bool false) (.string (mkS fb)) (.slice none 0 0)) R3.out (R3.out.other3 (k := w.heap.size + 1 + 1) (.bool false) (.string (mkS fb)) (.slice none 0 0) (by omega))
      obtain ⟨y0, y1, y2⟩ := y
      have x := RowAt.lb2 (size3 W (w.heap.size + 1 + 1) (.bool false) (.string (mkS fb)) (.slice none 0 0)) R2.out (R2.out.other3 (k := w.heap.size + 1 + 1) (.bool false) (.string (mkS fb)) (.slice none 0 0) (by omega))
      obtain ⟨x0, x1⟩ := x
      have HLT := R4.out.lt
      (refine region_once 13 (((W.setCell ⟨w.heap.size + 1 + 1, 0, none⟩ (.bool false)).setCell ⟨w.heap.size + 1 + 1, 1, none⟩ (.string (mkS fb))).setCell ⟨w.heap.size + 1 + 1, 2, none⟩ (.slice none 0 0)) mix ?hB ?hS ?_; case hB => kernel_rfl); (case hS => exact size3 _ _ _ _ _); (iterate 13 ((with_reducible refine once_step ?hkk ?_); (case hkk => rfl); intro K hK; go_simp; (first | (with_reducible refine hK _ ?_; clear hK K) | (apply Exists.intro; refine ⟨fun u => ?_, hK _ ?_⟩; (((go_at_call 170); exact LB.callSame (sizes_any _ _))); clear hK K)))); (refine once_store rfl rfl (fun u => ?_) ?_; (go_simp; exact Later.set3 HLT _ _ _ u)); go_simp; (iterate 1 ((with_reducible refine once_step ?hkk ?_); (case hkk => rfl); intro K hK; go_simp; (first | (with_reducible refine hK _ ?_; clear hK K) | (apply Exists.intro; refine ⟨fun u => ?_, hK _ ?_⟩; (((go_at_call 170); exact LB.callSame (sizes_any _ _))); clear hK K)))); (with_reducible refine once_nil ?_; intro u)
      clear x0 x1 y0 y1 y2 z0 z1 z2 zf0 zf1 zf2
      go_wp2
      obtain ⟨r, bb⟩ := box3 R4.out HB.out (Nat.le_trans (Nat.le_succ _) (Nat.le_succ _)) (.bool false) (.string (mkS fb)) (.slice none 0 0)
      obtain ⟨e0, e1, e2, _⟩ := (r.later u).c3
      refine bodyPost_ret (v := .tuple #[.agg #[.bool false, .string (mkS fb), .slice none 0 0], .bool false]) (by simp [results, Try.results146, go_sem, e0, e1, e2]) rfl ?_
      exact itemPost_ok (bb.trans (u.below.mono bb.size)) (.inl ⟨by rw [HR.out, if_neg (fun h => H2.out h.2.2)], rfl⟩)
    · have hb1 : (decide (fn = 0) && decide (fk.length = 0)) = false := by
        by_cases e : fn = 0
        · simp only [e, true_and] at h1 ⊢
          simp only [h1, decide_true, decide_false, Bool.true_and]
        · simp [e]
      rw [hb1]
      have H1 := Lib.hid h1
      clear h1 hb1
      go_upto_region 11 with (fail)
      clear x0 x1 xf0 xf1 y0 y1 y2 yf0 yf1 yf2
      have z := R4.out.lw3
      obtain ⟨z0, z1, z2, zf0, zf1, zf2⟩ := z
      have y := RowAt.lb3 (size3 W (w.heap.size + 1 + 1) (.bool false) (.string (mkS fb)) (.slice none 0 0)) R3.out (R3.out.other3 (k := w.heap.size + 1 + 1) (.bool false) (.string (mkS fb)) (.slice none 0 0) (by omega))
      obtain ⟨y0, y1, y2⟩ := y
      have x := RowAt.lb2 (size3 W (w.heap.size + 1 + 1) (.bool false) (.string (mkS fb)) (.slice none 0 0)) R2.out (R2.out.other3 (k := w.heap.size + 1 + 1) (.bool false) (.string (mkS fb)) (.slice none 0 0) (by omega))
      obtain ⟨x0, x1⟩ := x
      have HLT := R4.out.lt
      (refine region_once 13 (((W.setCell ⟨w.heap.size + 1 + 1, 0, none⟩ (.bool false)).setCell ⟨w.heap.size + 1 + 1, 1, none⟩ (.string (mkS fb))).setCell ⟨w.heap.size + 1 + 1, 2, none⟩ (.slice none 0 0)) mix ?hB ?hS ?_; case hB => kernel_rfl); (case hS => exact size3 _ _ _ _ _); (iterate 13 ((with_reducible refine once_step ?hkk ?_); (case hkk => rfl); intro K hK; go_simp; (first | (with_reducible refine hK _ ?_; clear hK K) | (apply Exists.intro; refine ⟨fun u => ?_, hK _ ?_⟩; (((go_at_call 170); exact LB.callSame (sizes_any _ _))); clear hK K)))); (refine once_store rfl rfl (fun u => ?_) ?_; (go_simp; exact Later.set3 HLT _ _ _ u)); go_simp; (iterate 1 ((with_reducible refine once_step ?hkk ?_); (case hkk => rfl); intro K hK; go_simp; (first | (with_reducible refine hK _ ?_; clear hK K) | (apply Exists.intro; refine ⟨fun u => ?_, hK _ ?_⟩; (((go_at_call 170); exact LB.callSame (sizes_any _ _))); clear hK K)))); (with_reducible refine once_nil ?_; intro u)
      clear x0 x1 y0 y1 y2 z0 z1 z2 zf0 zf1 zf2
      go_wp2
      obtain ⟨r, bb⟩ := box3 R4.out HB.out (Nat.le_trans (Nat.le_succ _) (Nat.le_succ _)) (.bool false) (.string (mkS fb)) (.slice none 0 0)
      obtain ⟨e0, e1, e2, _⟩ := (r.later u).c3
      refine bodyPost_ret (v := .tuple #[.agg #[.bool false, .string (mkS fb), .slice none 0 0], .bool false]) (by simp [results, Try.results146, go_sem, e0, e1, e2]) rfl ?_
      exact itemPost_ok (bb.trans (u.below.mono bb.size)) (.inl ⟨by rw [HR.out, if_neg (fun h => H2.out h.2.2)], rfl⟩)

end Go.Proofs.Ytefmlbckbhlgdaa
namespace Go.Proofs.Ytefmlbckbhlgdaa
open Go.RowKit
set_option maxRecDepth 100000 in
set_option maxHeartbeats 4000000 in
theorem item_list (c : UInt8) (hc : c = 42 ∨ c = 40) (ks : List Kd) (HI : ItemsC (.mk c ks)) (s : Sl) (fn : Nat) (fb : List UInt8) (fk : List Fd) (s' : Sl) (w : World) (hok : fsOk fk) (hK : KindAt w (.mk c ks) s) (hF : FieldAt w (.mk (fn, fb) fk) s') :
    Calls Try.prog 146 #[kV c s, fV (fn, fb) s'] w (ItemPost (itemK (.mk c ks) (.mk (fn, fb) fk)) w) := by
  have HR : Hid (itemK (.mk c ks) (.mk (fn, fb) fk) = if fn = 0 ∧ fb = [] then itemsT (.mk c ks) fk else none) := Lib.hid (by
    rcases hc with rfl | rfl
    · rw [itemK, itemsT, if_neg (by decide), if_neg (by decide), if_pos rfl, if_pos rfl]
      by_cases h1 : fn = 0 ∧ fb = []
      · by_cases h2 : fk.length ≤ 40 <;> simp [h1, h2]
      · rw [if_neg h1, if_neg (fun h => h1 ⟨h.1, h.2.1⟩)]
    · rw [itemK, itemsT, if_neg (show ¬ (40 : UInt8) = 110 by decide), if_neg (show ¬ (40 : UInt8) = 98 by decide), if_neg (show ¬ (40 : UInt8) = 42 by decide), if_pos rfl, if_neg (show ¬ (40 : UInt8) = 42 by decide)])
  generalize itemK (.mk c ks) (.mk (fn, fb) fk) = res at *
  have q110 : ((c.toNat : Int) == 110) = false := c8_ne (n := 110) (by omega) (by rcases hc with rfl | rfl <;> decide)
  have q98 : ((c.toNat : Int) == 98) = false := c8_ne (n := 98) (by omega) (by rcases hc with rfl | rfl <;> decide)
  obtain ⟨pk, nk, ck⟩ := s
  obtain ⟨pf, nf, cf⟩ := s'
  obtain ⟨hnf, f1, f2⟩ := RowT.sane hF
  replace hnf : nf = fk.length := hnf
  subst hnf
  unfold maxLen at f2
  simp only [kV, fV, slV] at *
  have R2 := Lib.hid (((RowAt.new w #[.int .u8 c.toNat, .slice pk nk ck] 111).alloc (.cells #[.int .u64 (fn : Int), .string (mkS fb), .slice pf fk.length cf] 64)).alloc (.cells #[.bool false, .string ⟨#[]⟩, .slice none 0 0] 98))
  have R3 := Lib.hid ((RowAt.new' (w.alloc (.cells #[.int .u8 c.toNat, .slice pk nk ck] 111)) #[.int .u64 (fn : Int), .string (mkS fb), .slice pf fk.length cf] 64 (k := w.heap.size + 1) (by simp)).alloc (.cells #[.bool false, .string ⟨#[]⟩, .slice none 0 0] 98))
  have R4 := Lib.hid (RowAt.new' ((w.alloc (.cells #[.int .u8 c.toNat, .slice pk nk ck] 111)).alloc (.cells #[.int .u64 (fn : Int), .string (mkS fb), .slice pf fk.length cf] 64)) #[.bool false, .string ⟨#[]⟩, .slice none 0 0] 98 (k := w.heap.size + 1 + 1) (by simp))
  have HB := Lib.hid (bel3 w (.cells #[.int .u8 c.toNat, .slice pk nk ck] 111) (.cells #[.int .u64 (fn : Int), .string (mkS fb), .slice pf fk.length cf] 64) (.cells #[.bool false, .string ⟨#[]⟩, .slice none 0 0] 98))
  have dn := int0 fn
  have dl := int0 fk.length
  have db := mkS_nil fb
  by_cases h40 : c = 40
  · have q40 : ((c.toNat : Int) == 40) = true := by rw [h40]; rfl
    clear h40 hc
    go_enter Try.func146, Try.ntmps146
    go_upto_region 1 with (fail)
    generalize ((w.alloc (.cells #[.int .u8 c.toNat, .slice pk nk ck] 111)).alloc (.cells #[.int .u64 (fn : Int), .string (mkS fb), .slice pf fk.length cf] 64)).alloc (.cells #[.bool false, .string ⟨#[]⟩, .slice none 0 0] 98) = W at *
    obtain ⟨x0, x1, xf0, xf1⟩ := R2.out.c2
    obtain ⟨y0, y1, y2, yf0, yf1, yf2⟩ := R3.out.c3
    go_cut [6] (fun t wr => t = .bool (decide (fn = 0) && decide (fk.length = 0)) ∧ W = wr)
    case first =>
      by_cases h1 : fn = 0
      · rw [decide_eq_true h1] at dn
        have H1 := Lib.hid h1
        clear h1
        go_wp2
        go_meet
        case rel => exact ⟨by simp [H1.out], rfl⟩
      · rw [decide_eq_false h1] at dn
        have H1 := Lib.hid h1
        clear h1
        go_wp2
        go_meet
        case rel => exact ⟨by simp [H1.out], rfl⟩
    case rest =>
    obtain ⟨rfl, rfl⟩ := hcut
    go_upto_region 9 with (fail)
    clear y0 y1 y2 yf0 yf1 yf2
    have KI := Lib.hid (HI (pk, nk, ck) fk (pf, fk.length, cf) W hok (RowT.below (show RowT encK (fun _ => True) w (.slice pk nk ck) ks from hK) HB.out (Nat.le_refl _)) (RowT.below (show RowT encFd (fun _ => True) w (.slice pf fk.length cf) fk from hF) HB.out (Nat.le_refl _)))
    obtain ⟨y0, y1, y2, yf0, yf1, yf2⟩ := R3.out.c3
    have HSW := Lib.hid HB.out.size
    have HK4 := Lib.hid R4.out.lt
    clear hok hK hF
    go_upto_region 10 with (go_at_call 100; refine KI.out.mono ?_; intro e w6 hpost; obtain ⟨l, b, p, n, c', is, rfl, hb, hcase⟩ := hpost; have HC := Lib.hid hcase; clear hcase; clear KI x0 x1 xf0 xf1 y0 y1 y2 yf0 yf1 yf2; have HS6 := Lib.hid hb.size; (replace R3 := Lib.hid (R3.out.belowS hb); replace R4 := Lib.hid (R4.out.belowS hb); replace HB := Lib.hid (HB.out.trans (hb.mono HB.out.size)); clear hb))
    (replace R3 := Lib.hid (R3.out.alloc (.cells #[.bool l, .string (mkS b), .slice p n c'] 98)); replace R4 := Lib.hid (R4.out.alloc (.cells #[.bool l, .string (mkS b), .slice p n c'] 98)); replace HB := Lib.hid (HB.out.alloc HB.out.size (.cells #[.bool l, .string (mkS b), .slice p n c'] 98)))
    have HK6 : Hid (w.heap.size + 1 + 1 < w6.heap.size) := Lib.hid (by have := HS6.out; have := HK4.out; omega)
    have R10 := Lib.hid (RowAt.new w6 #[.bool l, .string (mkS b), .slice p n c'] 98)
    have HA6 := Lib.hid (bel1 w6 (.cells #[.bool l, .string (mkS b), .slice p n c'] 98))
    have HRW : Hid ((res = none ∧ is = false) ∨ ∃ ks', res = (if fn = 0 ∧ fb = [] then some (It.mk l b ks') else none) ∧ is = true ∧ RowT encIt (fun b => W.heap.size ≤ b) (w6.alloc (.cells #[.bool l, .string (mkS b), .slice p n c'] 98)) (.slice p n c') (itTs ks')) := Lib.hid (by
      rcases HC.out with ⟨h1, h2⟩ | ⟨ks', h1, h2, h3⟩
      · exact .inl ⟨by rw [HR.out, h1]; split <;> rfl, h2⟩
      · exact .inr ⟨ks', by rw [HR.out, h1], h2, RowT.below h3 HA6.out (Nat.le_refl _)⟩)
    clear HC HA6 HR
    generalize w6.alloc (.cells #[.bool l, .string (mkS b), .slice p n c'] 98) = W7 at *
    generalize w6.heap.size = k10 at *
    clear dl
    rcases HRW.out with ⟨hn0, rfl⟩ | ⟨ks', hs0, rfl, hrow⟩
    · have HN := Lib.hid hn0
      clear hn0 HRW dn db
      have z := R4.out.lw3
      obtain ⟨z0, z1, z2, zf0, zf1, zf2⟩ := z
      have HK1 := R4.out.lt
      have y := RowAt.lb3 (size3 W7 (w.heap.size + 1 + 1) (.bool l) (.string (mkS b)) (.slice p n c')) R3.out (R3.out.other3 (k := w.heap.size + 1 + 1) (.bool l) (.string (mkS b)) (.slice p n c') (by omega))
      obtain ⟨y0, y1, y2⟩ := y
      have x := RowAt.lb3 (size3 W7 (w.heap.size + 1 + 1) (.bool l) (.string (mkS b)) (.slice p n c')) R10.out (R10.out.other3 (k := w.heap.size + 1 + 1) (.bool l) (.string (mkS b)) (.slice p n c') (by have := HK6.out; omega))
      obtain ⟨x0, x1, x2⟩ := x
      (refine region_once 12 (((W7.setCell ⟨w.heap.size + 1 + 1, 0, none⟩ (.bool l)).setCell ⟨w.heap.size + 1 + 1, 1, none⟩ (.string (mkS b))).setCell ⟨w.heap.size + 1 + 1, 2, none⟩ (.slice p n c')) mix ?hB ?hS ?_; case hB => kernel_rfl); (case hS => exact size3 _ _ _ _ _); (iterate 12 ((with_reducible refine once_step ?hkk ?_); (case hkk => rfl); intro K hK; go_simp; (first | (with_reducible refine hK _ ?_; clear hK K) | (apply Exists.intro; refine ⟨fun u => ?_, hK _ ?_⟩; (fail); clear hK K)))); (refine once_store rfl rfl (fun u => ?_) ?_; (go_simp; exact Later.set3 HK1 _ _ _ u)); go_simp; (iterate 1 ((with_reducible refine once_step ?hkk ?_); (case hkk => rfl); intro K hK; go_simp; (first | (with_reducible refine hK _ ?_; clear hK K) | (apply Exists.intro; refine ⟨fun u => ?_, hK _ ?_⟩; (fail); clear hK K)))); (with_reducible refine once_nil ?_; intro u)
      clear x0 x1 x2 y0 y1 y2 z0 z1 z2 zf0 zf1 zf2
      go_wp2
      obtain ⟨r, bb⟩ := box3 R4.out HB.out (Nat.le_trans (Nat.le_succ _) (Nat.le_succ _)) (.bool l) (.string (mkS b)) (.slice p n c')
      obtain ⟨e0, e1, e2, _⟩ := (r.later u).c3
      refine bodyPost_ret (v := .tuple #[.agg #[.bool l, .string (mkS b), .slice p n c'], .bool false]) (by simp [results, Try.results146, go_sem, e0, e1, e2]) rfl ?_
      exact ⟨l, b, p, n, c', false, rfl, bb.trans (u.below.mono bb.size), .inl ⟨HN.out, rfl⟩⟩
    · have HN := Lib.hid hs0
      have HT := Lib.hid hrow
      clear hs0 hrow HRW
      by_cases h1 : fn = 0
      · rw [decide_eq_true h1] at dn
        have H1 := Lib.hid h1
        clear h1
        by_cases h2 : fb = []
        · have dbb : (mkS fb).toList = [] := db.2 h2
          have H2 := Lib.hid h2
          clear h2 db
          have z := R4.out.lw3
          obtain ⟨z0, z1, z2, zf0, zf1, zf2⟩ := z
          have HK1 := R4.out.lt
          have y := RowAt.lb3 (size3 W7 (w.heap.size + 1 + 1) (.bool l) (.string (mkS b)) (.slice p n c')) R3.out (R3.out.other3 (k := w.heap.size + 1 + 1) (.bool l) (.string (mkS b)) (.slice p n c') (by omega))
          obtain ⟨y0, y1, y2⟩ := y
          have x := RowAt.lb3 (size3 W7 (w.heap.size + 1 + 1) (.bool l) (.string (mkS b)) (.slice p n c')) R10.out (R10.out.other3 (k := w.heap.size + 1 + 1) (.bool l) (.string (mkS b)) (.slice p n c') (by have := HK6.out; omega))
          obtain ⟨x0, x1, x2⟩ := x
          (refine region_once 12 (((W7.setCell ⟨w.heap.size + 1 + 1, 0, none⟩ (.bool l)).setCell ⟨w.heap.size + 1 + 1, 1, none⟩ (.string (mkS b))).setCell ⟨w.heap.size + 1 + 1, 2, none⟩ (.slice p n c')) mix ?hB ?hS ?_; case hB => kernel_rfl); (case hS => exact size3 _ _ _ _ _); (iterate 12 ((with_reducible refine once_step ?hkk ?_); (case hkk => rfl); intro K hK; go_simp; (first | (with_reducible refine hK _ ?_; clear hK K) | (apply Exists.intro; refine ⟨fun u => ?_, hK _ ?_⟩; (fail); clear hK K)))); (refine once_store rfl rfl (fun u => ?_) ?_; (go_simp; exact Later.set3 HK1 _ _ _ u)); go_simp; (iterate 1 ((with_reducible refine once_step ?hkk ?_); (case hkk => rfl); intro K hK; go_simp; (first | (with_reducible refine hK _ ?_; clear hK K) | (apply Exists.intro; refine ⟨fun u => ?_, hK _ ?_⟩; (fail); clear hK K)))); (with_reducible refine once_nil ?_; intro u)
          clear x0 x1 x2 y0 y1 y2 z0 z1 z2 zf0 zf1 zf2
          go_wp2
          obtain ⟨r, bb⟩ := box3 R4.out HB.out (Nat.le_trans (Nat.le_succ _) (Nat.le_succ _)) (.bool l) (.string (mkS b)) (.slice p n c')
          obtain ⟨e0, e1, e2, _⟩ := (r.later u).c3
          refine bodyPost_ret (v := .tuple #[.agg #[.bool l, .string (mkS b), .slice p n c'], .bool true]) (by simp [results, Try.results146, go_sem, e0, e1, e2]) rfl ?_
          exact ⟨l, b, p, n, c', true, rfl, bb.trans (u.below.mono bb.size), .inr ⟨ks', by rw [HN.out, if_pos ⟨H1.out, H2.out⟩], rfl, (HT.out.keep (A' := fun b => w.heap.size ≤ b) (fun a v ha hc => by rw [u.below.cell (by have := block_lt_of_cell hc; simpa using this), World.cell?_setCell_other, World.cell?_setCell_other, World.cell?_setCell_other]; exact hc; all_goals (intro e; subst e; have := HK4.out; simp only at ha; omega)) (fun b hb => by have := HSW.out; omega))⟩⟩
        · have dbb : ¬ (mkS fb).toList = [] := fun h => h2 (db.1 h)
          have dbe : (mkS fb).toList.isEmpty = false := by simpa using dbb
          have H2 := Lib.hid h2
          clear h2 db
          have z := R4.out.lw3
          obtain ⟨z0, z1, z2, zf0, zf1, zf2⟩ := z
          have HK1 := R4.out.lt
          have y := RowAt.lb3 (size3 W7 (w.heap.size + 1 + 1) (.bool l) (.string (mkS b)) (.slice p n c')) R3.out (R3.out.other3 (k := w.heap.size + 1 + 1) (.bool l) (.string (mkS b)) (.slice p n c') (by omega))
          obtain ⟨y0, y1, y2⟩ := y
          have x := RowAt.lb3 (size3 W7 (w.heap.size + 1 + 1) (.bool l) (.string (mkS b)) (.slice p n c')) R10.out (R10.out.other3 (k := w.heap.size + 1 + 1) (.bool l) (.string (mkS b)) (.slice p n c') (by have := HK6.out; omega))
          obtain ⟨x0, x1, x2⟩ := x
          (refine region_once 12 (((W7.setCell ⟨w.heap.size + 1 + 1, 0, none⟩ (.bool l)).setCell ⟨w.heap.size + 1 + 1, 1, none⟩ (.string (mkS b))).setCell ⟨w.heap.size + 1 + 1, 2, none⟩ (.slice p n c')) mix ?hB ?hS ?_; case hB => kernel_rfl); (case hS => exact size3 _ _ _ _ _); (iterate 12 ((with_reducible refine once_step ?hkk ?_); (case hkk => rfl); intro K hK; go_simp; (first | (with_reducible refine hK _ ?_; clear hK K) | (apply Exists.intro; refine ⟨fun u => ?_, hK _ ?_⟩; (fail); clear hK K)))); (refine once_store rfl rfl (fun u => ?_) ?_; (go_simp; exact Later.set3 HK1 _ _ _ u)); go_simp; (iterate 1 ((with_reducible refine once_step ?hkk ?_); (case hkk => rfl); intro K hK; go_simp; (first | (with_reducible refine hK _ ?_; clear hK K) | (apply Exists.intro; refine ⟨fun u => ?_, hK _ ?_⟩; (fail); clear hK K)))); (with_reducible refine once_nil ?_; intro u)
          clear x0 x1 x2 y0 y1 y2 z0 z1 z2 zf0 zf1 zf2
          go_wp2
          obtain ⟨r, bb⟩ := box3 R4.out HB.out (Nat.le_trans (Nat.le_succ _) (Nat.le_succ _)) (.bool l) (.string (mkS b)) (.slice p n c')
          obtain ⟨e0, e1, e2, _⟩ := (r.later u).c3
          refine bodyPost_ret (v := .tuple #[.agg #[.bool l, .string (mkS b), .slice p n c'], .bool false]) (by simp [results, Try.results146, go_sem, e0, e1, e2]) rfl ?_
          exact ⟨l, b, p, n, c', false, rfl, bb.trans (u.below.mono bb.size), .inl ⟨by rw [HN.out, if_neg (fun h => H2.out h.2)], rfl⟩⟩
      · rw [decide_eq_false h1] at dn
        have H1 := Lib.hid h1
        clear h1 db
        have z := R4.out.lw3
        obtain ⟨z0, z1, z2, zf0, zf1, zf2⟩ := z
        have HK1 := R4.out.lt
        have y := RowAt.lb3 (size3 W7 (w.heap.size + 1 + 1) (.bool l) (.string (mkS b)) (.slice p n c')) R3.out (R3.out.other3 (k := w.heap.size + 1 + 1) (.bool l) (.string (mkS b)) (.slice p n c') (by omega))
        obtain ⟨y0, y1, y2⟩ := y
        have x := RowAt.lb3 (size3 W7 (w.heap.size + 1 + 1) (.bool l) (.string (mkS b)) (.slice p n c')) R10.out (R10.out.other3 (k := w.heap.size + 1 + 1) (.bool l) (.string (mkS b)) (.slice p n c') (by have := HK6.out; omega))
        obtain ⟨x0, x1, x2⟩ := x
        (refine region_once 12 (((W7.setCell ⟨w.heap.size + 1 + 1, 0, none⟩ (.bool l)).setCell ⟨w.heap.size + 1 + 1, 1, none⟩ (.string (mkS b))).setCell ⟨w.heap.size + 1 + 1, 2, none⟩ (.slice p n c')) mix ?hB ?hS ?_; case hB => kernel_rfl); (case hS => exact size3 _ _ _ _ _); (iterate 12 ((with_reducible refine once_step ?hkk ?_); (case hkk => rfl); intro K hK; go_simp; (first | (with_reducible refine hK _ ?_; clear hK K) | (apply Exists.intro; refine ⟨fun u => ?_, hK _ ?_⟩; (fail); clear hK K)))); (refine once_store rfl rfl (fun u => ?_) ?_; (go_simp; exact Later.set3 HK1 _ _ _ u)); go_simp; (iterate 1 ((with_reducible refine once_step ?hkk ?_); (case hkk => rfl); intro K hK; go_simp; (first | (with_reducible refine hK _ ?_; clear hK K) | (apply Exists.intro; refine ⟨fun u => ?_, hK _ ?_⟩; (fail); clear hK K)))); (with_reducible refine once_nil ?_; intro u)
        clear x0 x1 x2 y0 y1 y2 z0 z1 z2 zf0 zf1 zf2
        go_wp2
        obtain ⟨r, bb⟩ := box3 R4.out HB.out (Nat.le_trans (Nat.le_succ _) (Nat.le_succ _)) (.bool l) (.string (mkS b)) (.slice p n c')
        obtain ⟨e0, e1, e2, _⟩ := (r.later u).c3
        refine bodyPost_ret (v := .tuple #[.agg #[.bool l, .string (mkS b), .slice p n c'], .bool false]) (by simp [results, Try.results146, go_sem, e0, e1, e2]) rfl ?_
        exact ⟨l, b, p, n, c', false, rfl, bb.trans (u.below.mono bb.size), .inl ⟨by rw [HN.out, if_neg (fun h => H1.out h.1)], rfl⟩⟩
  · have q40 : ((c.toNat : Int) == 40) = false := c8_ne (n := 40) (by omega) h40
    have q42 : ((c.toNat : Int) == 42) = true := by rw [hc.resolve_right h40]; rfl
    clear h40 hc
    go_enter Try.func146, Try.ntmps146
    go_upto_region 1 with (fail)
    generalize ((w.alloc (.cells #[.int .u8 c.toNat, .slice pk nk ck] 111)).alloc (.cells #[.int .u64 (fn : Int), .string (mkS fb), .slice pf fk.length cf] 64)).alloc (.cells #[.bool false, .string ⟨#[]⟩, .slice none 0 0] 98) = W at *
    obtain ⟨x0, x1, xf0, xf1⟩ := R2.out.c2
    obtain ⟨y0, y1, y2, yf0, yf1, yf2⟩ := R3.out.c3
    go_cut [6] (fun t wr => t = .bool (decide (fn = 0) && decide (fk.length = 0)) ∧ W = wr)
    case first =>
      by_cases h1 : fn = 0
      · rw [decide_eq_true h1] at dn
        have H1 := Lib.hid h1
        clear h1
        go_wp2
        go_meet
        case rel => exact ⟨by simp [H1.out], rfl⟩
      · rw [decide_eq_false h1] at dn
        have H1 := Lib.hid h1
        clear h1
        go_wp2
        go_meet
        case rel => exact ⟨by simp [H1.out], rfl⟩
    case rest =>
    obtain ⟨rfl, rfl⟩ := hcut
    go_upto_region 9 with (fail)
    clear y0 y1 y2 yf0 yf1 yf2
    have KI := Lib.hid (HI (pk, nk, ck) fk (pf, fk.length, cf) W hok (RowT.below (show RowT encK (fun _ => True) w (.slice pk nk ck) ks from hK) HB.out (Nat.le_refl _)) (RowT.below (show RowT encFd (fun _ => True) w (.slice pf fk.length cf) fk from hF) HB.out (Nat.le_refl _)))
    obtain ⟨y0, y1, y2, yf0, yf1, yf2⟩ := R3.out.c3
    have HSW := Lib.hid HB.out.size
    have HK4 := Lib.hid R4.out.lt
    clear hok hK hF
    go_upto_region 10 with (go_at_call 100; refine KI.out.mono ?_; intro e w6 hpost; obtain ⟨l, b, p, n, c', is, rfl, hb, hcase⟩ := hpost; have HC := Lib.hid hcase; clear hcase; clear KI x0 x1 xf0 xf1 y0 y1 y2 yf0 yf1 yf2; have HS6 := Lib.hid hb.size; (replace R3 := Lib.hid (R3.out.belowS hb); replace R4 := Lib.hid (R4.out.belowS hb); replace HB := Lib.hid (HB.out.trans (hb.mono HB.out.size)); clear hb))
    (replace R3 := Lib.hid (R3.out.alloc (.cells #[.bool l, .string (mkS b), .slice p n c'] 98)); replace R4 := Lib.hid (R4.out.alloc (.cells #[.bool l, .string (mkS b), .slice p n c'] 98)); replace HB := Lib.hid (HB.out.alloc HB.out.size (.cells #[.bool l, .string (mkS b), .slice p n c'] 98)))
    have HK6 : Hid (w.heap.size + 1 + 1 < w6.heap.size) := Lib.hid (by have := HS6.out; have := HK4.out; omega)
    have R10 := Lib.hid (RowAt.new w6 #[.bool l, .string (mkS b), .slice p n c'] 98)
    have HA6 := Lib.hid (bel1 w6 (.cells #[.bool l, .string (mkS b), .slice p n c'] 98))
    have HRW : Hid ((res = none ∧ is = false) ∨ ∃ ks', res = (if fn = 0 ∧ fb = [] then some (It.mk l b ks') else none) ∧ is = true ∧ RowT encIt (fun b => W.heap.size ≤ b) (w6.alloc (.cells #[.bool l, .string (mkS b), .slice p n c'] 98)) (.slice p n c') (itTs ks')) := Lib.hid (by
      rcases HC.out with ⟨h1, h2⟩ | ⟨ks', h1, h2, h3⟩
      · exact .inl ⟨by rw [HR.out, h1]; split <;> rfl, h2⟩
      · exact .inr ⟨ks', by rw [HR.out, h1], h2, RowT.below h3 HA6.out (Nat.le_refl _)⟩)
    clear HC HA6 HR
    generalize w6.alloc (.cells #[.bool l, .string (mkS b), .slice p n c'] 98) = W7 at *
    generalize w6.heap.size = k10 at *
    clear dl
    rcases HRW.out with ⟨hn0, rfl⟩ | ⟨ks', hs0, rfl, hrow⟩
    · have HN := Lib.hid hn0
      clear hn0 HRW dn db
      have z := R4.out.lw3
      obtain ⟨z0, z1, z2, zf0, zf1, zf2⟩ := z
      have HK1 := R4.out.lt
      have y := RowAt.lb3 (size3 W7 (w.heap.size + 1 + 1) (.bool l) (.string (mkS b)) (.slice p n c')) R3.out (R3.out.other3 (k := w.heap.size + 1 + 1) (.bool l) (.string (mkS b)) (.slice p n c') (by omega))
      obtain ⟨y0, y1, y2⟩ := y
      have x := RowAt.lb3 (size3 W7 (w.heap.size + 1 + 1) (.bool l) (.string (mkS b)) (.slice p n c')) R10.out (R10.out.other3 (k := w.heap.size + 1 + 1) (.bool l) (.string (mkS b)) (.slice p n c') (by have := HK6.out; omega))
      obtain ⟨x0, x1, x2⟩ := x
      (refine region_once 12 (((W7.setCell ⟨w.heap.size + 1 + 1, 0, none⟩ (.bool l)).setCell ⟨w.heap.size + 1 + 1, 1, none⟩ (.string (mkS b))).setCell ⟨w.heap.size + 1 + 1, 2, none⟩ (.slice p n c')) mix ?hB ?hS ?_; case hB => kernel_rfl); (case hS => exact size3 _ _ _ _ _); (iterate 12 ((with_reducible refine once_step ?hkk ?_); (case hkk => rfl); intro K hK; go_simp; (first | (with_reducible refine hK _ ?_; clear hK K) | (apply Exists.intro; refine ⟨fun u => ?_, hK _ ?_⟩; (fail); clear hK K)))); (refine once_store rfl rfl (fun u => ?_) ?_; (go_simp; exact Later.set3 HK1 _ _ _ u)); go_simp; (iterate 1 ((with_reducible refine once_step ?hkk ?_); (case hkk => rfl); intro K hK; go_simp; (first | (with_reducible refine hK _ ?_; clear hK K) | (apply Exists.intro; refine ⟨fun u => ?_, hK _ ?_⟩; (fail); clear hK K)))); (with_reducible refine once_nil ?_; intro u)
      clear x0 x1 x2 y0 y1 y2 z0 z1 z2 zf0 zf1 zf2
      go_wp2
      obtain ⟨r, bb⟩ := box3 R4.out HB.out (Nat.le_trans (Nat.le_succ _) (Nat.le_succ _)) (.bool l) (.string (mkS b)) (.slice p n c')
      obtain ⟨e0, e1, e2, _⟩ := (r.later u).c3
      refine bodyPost_ret (v := .tuple #[.agg #[.bool l, .string (mkS b), .slice p n c'], .bool false]) (by simp [results, Try.results146, go_sem, e0, e1, e2]) rfl ?_
      exact ⟨l, b, p, n, c', false, rfl, bb.trans (u.below.mono bb.size), .inl ⟨HN.out, rfl⟩⟩
    · have HN := Lib.hid hs0
      have HT := Lib.hid hrow
      clear hs0 hrow HRW
      by_cases h1 : fn = 0
      · rw [decide_eq_true h1] at dn
        have H1 := Lib.hid h1
        clear h1
        by_cases h2 : fb = []
        · have dbb : (mkS fb).toList = [] := db.2 h2
          have H2 := Lib.hid h2
          clear h2 db
          have z := R4.out.lw3
          obtain ⟨z0, z1, z2, zf0, zf1, zf2⟩ := z
          have HK1 := R4.out.lt
          have y := RowAt.lb3 (size3 W7 (w.heap.size + 1 + 1) (.bool l) (.string (mkS b)) (.slice p n c')) R3.out (R3.out.other3 (k := w.heap.size + 1 + 1) (.bool l) (.string (mkS b)) (.slice p n c') (by omega))
          obtain ⟨y0, y1, y2⟩ := y
          have x := RowAt.lb3 (size3 W7 (w.heap.size + 1 + 1) (.bool l) (.string (mkS b)) (.slice p n c')) R10.out (R10.out.other3 (k := w.heap.size + 1 + 1) (.bool l) (.string (mkS b)) (.slice p n c') (by have := HK6.out; omega))
          obtain ⟨x0, x1, x2⟩ := x
          (refine region_once 12 (((W7.setCell ⟨w.heap.size + 1 + 1, 0, none⟩ (.bool l)).setCell ⟨w.heap.size + 1 + 1, 1, none⟩ (.string (mkS b))).setCell ⟨w.heap.size + 1 + 1, 2, none⟩ (.slice p n c')) mix ?hB ?hS ?_; case hB => kernel_rfl); (case hS => exact size3 _ _ _ _ _); (iterate 12 ((with_reducible refine once_step ?hkk ?_); (case hkk => rfl); intro K hK; go_simp; (first | (with_reducible refine hK _ ?_; clear hK K) | (apply Exists.intro; refine ⟨fun u => ?_, hK _ ?_⟩; (fail); clear hK K)))); (refine once_store rfl rfl (fun u => ?_) ?_; (go_simp; exact Later.set3 HK1 _ _ _ u)); go_simp; (iterate 1 ((with_reducible refine once_step ?hkk ?_); (case hkk => rfl); intro K hK; go_simp; (first | (with_reducible refine hK _ ?_; clear hK K) | (apply Exists.intro; refine ⟨fun u => ?_, hK _ ?_⟩; (fail); clear hK K)))); (with_reducible refine once_nil ?_; intro u)
          clear x0 x1 x2 y0 y1 y2 z0 z1 z2 zf0 zf1 zf2
          go_wp2
          obtain ⟨r, bb⟩ := box3 R4.out HB.out (Nat.le_trans (Nat.le_succ _) (Nat.le_succ _)) (.bool l) (.string (mkS b)) (.slice p n c')
          obtain ⟨e0, e1, e2, _⟩ := (r.later u).c3
          refine bodyPost_ret (v := .tuple #[.agg #[.bool l, .string (mkS b), .slice p n c'], .bool true]) (by simp [results, Try.results146, go_sem, e0, e1, e2]) rfl ?_
          exact ⟨l, b, p, n, c', true, rfl, bb.trans (u.below.mono bb.size), .inr ⟨ks', by rw [HN.out, if_pos ⟨H1.out, H2.out⟩], rfl, (HT.out.keep (A' := fun b => w.heap.size ≤ b) (fun a v ha hc => by rw [u.below.cell (by have := block_lt_of_cell hc; simpa using this), World.cell?_setCell_other, World.cell?_setCell_other, World.cell?_setCell_other]; exact hc; all_goals (intro e; subst e; have := HK4.out; simp only at ha; omega)) (fun b hb => by have := HSW.out; omega))⟩⟩
        · have dbb : ¬ (mkS fb).toList = [] := fun h => h2 (db.1 h)
          have dbe : (mkS fb).toList.isEmpty = false := by simpa using dbb
          have H2 := Lib.hid h2
          clear h2 db
          have z := R4.out.lw3
          obtain ⟨z0, z1, z2, zf0, zf1, zf2⟩ := z
          have HK1 := R4.out.lt
          have y := RowAt.lb3 (size3 W7 (w.heap.size + 1 + 1) (.bool l) (.string (mkS b)) (.slice p n c')) R3.out (R3.out.other3 (k := w.heap.size + 1 + 1) (.bool l) (.string (mkS b)) (.slice p n c') (by omega))
          obtain ⟨y0, y1, y2⟩ := y
          have x := RowAt.lb3 (size3 W7 (w.heap.size + 1 + 1) (.bool l) (.string (mkS b)) (.slice p n c')) R10.out (R10.out.other3 (k := w.heap.size + 1 + 1) (.bool l) (.string (mkS b)) (.slice p n c') (by have := HK6.out; omega))
          obtain ⟨x0, x1, x2⟩ := x
          (refine region_once 12 (((W7.setCell ⟨w.heap.size + 1 + 1, 0, none⟩ (.bool l)).setCell ⟨w.heap.size + 1 + 1, 1, none⟩ (.string (mkS b))).setCell ⟨w.heap.size + 1 + 1, 2, none⟩ (.slice p n c')) mix ?hB ?hS ?_; case hB => kernel_rfl); (case hS => exact size3 _ _ _ _ _); (iterate 12 ((with_reducible refine once_step ?hkk ?_); (case hkk => rfl); intro K hK; go_simp; (first | (with_reducible refine hK _ ?_; clear hK K) | (apply Exists.intro; refine ⟨fun u => ?_, hK _ ?_⟩; (fail); clear hK K)))); (refine once_store rfl rfl (fun u => ?_) ?_; (go_simp; exact Later.set3 HK1 _ _ _ u)); go_simp; (iterate 1 ((with_reducible refine once_step ?hkk ?_); (case hkk => rfl); intro K hK; go_simp; (first | (with_reducible refine hK _ ?_; clear hK K) | (apply Exists.intro; refine ⟨fun u => ?_, hK _ ?_⟩; (fail); clear hK K)))); (with_reducible refine once_nil ?_; intro u)
          clear x0 x1 x2 y0 y1 y2 z0 z1 z2 zf0 zf1 zf2
          go_wp2
          obtain ⟨r, bb⟩ := box3 R4.out HB.out (Nat.le_trans (Nat.le_succ _) (Nat.le_succ _)) (.bool l) (.string (mkS b)) (.slice p n c')
          obtain ⟨e0, e1, e2, _⟩ := (r.later u).c3
          refine bodyPost_ret (v := .tuple #[.agg #[.bool l, .string (mkS b), .slice p n c'], .bool false]) (by simp [results, Try.results146, go_sem, e0, e1, e2]) rfl ?_
          exact ⟨l, b, p, n, c', false, rfl, bb.trans (u.below.mono bb.size), .inl ⟨by rw [HN.out, if_neg (fun h => H2.out h.2)], rfl⟩⟩
      · rw [decide_eq_false h1] at dn
        have H1 := Lib.hid h1
        clear h1 db
        have z := R4.out.lw3
        obtain ⟨z0, z1, z2, zf0, zf1, zf2⟩ := z
        have HK1 := R4.out.lt
        have y := RowAt.lb3 (size3 W7 (w.heap.size + 1 + 1) (.bool l) (.string (mkS b)) (.slice p n c')) R3.out (R3.out.other3 (k := w.heap.size + 1 + 1) (.bool l) (.string (mkS b)) (.slice p n c') (by omega))
        obtain ⟨y0, y1, y2⟩ := y
        have x := RowAt.lb3 (size3 W7 (w.heap.size + 1 + 1) (.bool l) (.string (mkS b)) (.slice p n c')) R10.out (R10.out.other3 (k := w.heap.size + 1 + 1) (.bool l) (.string (mkS b)) (.slice p n c') (by have := HK6.out; omega))
        obtain ⟨x0, x1, x2⟩ := x
        (refine region_once 12 (((W7.setCell ⟨w.heap.size + 1 + 1, 0, none⟩ (.bool l)).setCell ⟨w.heap.size + 1 + 1, 1, none⟩ (.string (mkS b))).setCell ⟨w.heap.size + 1 + 1, 2, none⟩ (.slice p n c')) mix ?hB ?hS ?_; case hB => kernel_rfl); (case hS => exact size3 _ _ _ _ _); (iterate 12 ((with_reducible refine once_step ?hkk ?_); (case hkk => rfl); intro K hK; go_simp; (first | (with_reducible refine hK _ ?_; clear hK K) | (apply Exists.intro; refine ⟨fun u => ?_, hK _ ?_⟩; (fail); clear hK K)))); (refine once_store rfl rfl (fun u => ?_) ?_; (go_simp; exact Later.set3 HK1 _ _ _ u)); go_simp; (iterate 1 ((with_reducible refine once_step ?hkk ?_); (case hkk => rfl); intro K hK; go_simp; (first | (with_reducible refine hK _ ?_; clear hK K) | (apply Exists.intro; refine ⟨fun u => ?_, hK _ ?_⟩; (fail); clear hK K)))); (with_reducible refine once_nil ?_; intro u)
        clear x0 x1 x2 y0 y1 y2 z0 z1 z2 zf0 zf1 zf2
        go_wp2
        obtain ⟨r, bb⟩ := box3 R4.out HB.out (Nat.le_trans (Nat.le_succ _) (Nat.le_succ _)) (.bool l) (.string (mkS b)) (.slice p n c')
        obtain ⟨e0, e1, e2, _⟩ := (r.later u).c3
        refine bodyPost_ret (v := .tuple #[.agg #[.bool l, .string (mkS b), .slice p n c'], .bool false]) (by simp [results, Try.results146, go_sem, e0, e1, e2]) rfl ?_
        exact ⟨l, b, p, n, c', false, rfl, bb.trans (u.below.mono bb.size), .inl ⟨by rw [HN.out, if_neg (fun h => H1.out h.1)], rfl⟩⟩

theorem item_of (c : UInt8) (ks : List Kd) (HI : ItemsC (.mk c ks)) : ItemC (.mk c ks) := by
  intro s f s' w hok hK hF
  obtain ⟨⟨fn, fb⟩, fk⟩ := f
  rw [fOk] at hok
  by_cases h110 : c = 110
  · exact item_num c h110 ks s fn fb fk s' w hok.1 hF
  · by_cases h98 : c = 98
    · exact item_bytes c h98 ks s fn fb fk s' w hF
    · by_cases h42 : c = 42
      · exact item_list c (.inl h42) ks HI s fn fb fk s' w hok.2 hK hF
      · by_cases h40 : c = 40
        · exact item_list c (.inr h40) ks HI s fn fb fk s' w hok.2 hK hF
        · exact item_sized c h110 h98 h42 h40 ks s fn fb fk s' w hF
end Go.Proofs.Ytefmlbckbhlgdaa

/- Headers' sums, in plain words and walked: Seal, Id, Turn. -/
import Derived.Test.YthipnbiilobjeaaHr4
import Derived.Test.YthipnbiilobjeaaHd2
import Derived.Test.YthipnbiilobjeaaFrBack
import Derived.Test.YthipnbiilobjeaaSig
import Derived.Test.YthipnbiilobjeaaKe4
namespace Go.Proofs.Ythipnbiilobjeaa
open Go.RowKit Go.Shelf
set_option maxRecDepth 100000

/-- A header without seals. -/
def bareH (h : Hd) : Hd := ⟨h.pa, h.ht, h.ro, h.tx, h.pr, h.va, h.val, h.vo, h.ad, h.rd, []⟩
def inR (h : Hd) (r : Int) : Hd := ⟨h.pa, h.ht, h.ro, h.tx, h.pr, h.va, h.val, h.vo, h.ad, r, h.se⟩
noncomputable def sealL (h : Hd) : List UInt8 × Int := if hdL h = true then (sumL (recL (bareH h)).1, 0) else ([], 1)
noncomputable def idL (h : Hd) : List UInt8 × Int := sealL (inR h 0)
def turnB : ByteArray := ⟨#[116, 117, 114, 110]⟩
def turnF (t : ByteArray) (r : Int) : List Fd := [bF turnB, bF t, nF r.toNat]
def turnR (t : ByteArray) (r : Int) : List UInt8 × Int := writeF [98, 104, 110] (turnF t r)
noncomputable def turnL (h : Hd) : List UInt8 × Int := if hdL h = true then (sumL (turnR (mkS (idL h).1) h.rd).1, 0) else ([], 1)

theorem turnR_ok {t : ByteArray} {r : Int} (ht : t.size = 32) (hr : 0 ≤ r ∧ r < 18446744073709551616) : (turnR t r).2 = 0 := by
  have d1 := dig_len8 (n := r.toNat) (by omega)
  have hk : kindsL [98, 104, 110] = some [.mk 98 [], .mk 104 [], .mk 110 []] := rfl
  have hi : itemsT (.mk 40 [.mk 98 [], .mk 104 [], .mk 110 []]) (turnF t r) = some (lI [bI turnB, bI t, nI r.toNat]) := by
    unfold turnF
    rw [itemsT, if_neg (by decide)]
    simp only [rowI, i_b (show turnB.size ≤ 64 by decide), i_h ht, i_n, Option.bind_some, Option.map_some]
  have hw : (lI [bI turnB, bI t, nI r.toNat]).weight = 1 + (5 + 33 + (1 + (dig r.toNat).length)) := by
    simp only [It.weight, weights, bl_length, List.length_nil, ht, show turnB.size = 4 from rfl]
    omega
  have hsz : (lI [bI turnB, bI t, nI r.toNat]).size = 4 := by simp only [It.size, sizes]
  have hp : (lI [bI turnB, bI t, nI r.toNat]).pure := by simp [It.pure, pures]
  have hd : (lI [bI turnB, bI t, nI r.toNat]).depth ≤ 8 := by simp [It.depth, depths]
  have hle := write_le3 _ (show (lI [bI turnB, bI t, nI r.toNat]).weight ≤ 20000 by omega)
  have hcnt : counts (turnF t r) ≤ 1000 := by
    unfold turnF
    simp only [counts, Tr.count]
    omega
  unfold turnR writeF
  rw [hk]
  simp only [if_pos hcnt, hi]
  rw [It.enc, if_neg (by rw [(pureB_iff _).2 hp]; simp; omega), if_neg (by omega), if_neg (by omega)]
theorem bareH_ok {h : Hd} (hk : HdOk h) : HdOk (bareH h) := ⟨hk.1, hk.2.1, hk.2.2.1, hk.2.2.2.1, hk.2.2.2.2.1, hk.2.2.2.2.2.1, Nat.zero_le _, hk.2.2.2.2.2.2.2.1, fun s hs => by cases hs⟩
theorem inR_ok {h : Hd} (r : Int) : HdOk (inR h r) ↔ HdOk h := Iff.rfl
theorem inR_hdL (h : Hd) (r : Int) : hdL (inR h r) = hdL h := rfl
theorem bareH_num {h : Hd} (hn : HdNum h) : HdNum (bareH h) := hn
theorem inR_num {h : Hd} (hn : HdNum h) : HdNum (inR h 0) := ⟨hn.1, (by decide : (0 : Int) ≤ 0), (by decide : (0 : Int) < 18446744073709551616)⟩
theorem hdL_true' {h : Hd} (e : hdL h = true) : HdOk h := by
  by_cases hh : HdOk h
  · exact hh
  · rw [hdL_false hh] at e; cases e
theorem rec_size {h : Hd} (hk : HdOk h) (hn : HdNum h) : (recL h).1.length ≤ 4000 := write_size (show (writeF hform (hdF h)).2 = 0 from by have := (rec_ok hk hn).1; rw [show writeF hform (hdF h) = recL h from rfl, this])

set_option maxHeartbeats 4000000 in
theorem seal_any (h : Hd) (sv gv : Value) (w : World) (hh : HdAt w h sv gv) (hn : HdNum h) (hl : h.val.length ≤ 1000000) : Calls Try.prog 21 #[hdV h sv gv] w fun e w' => e = .returned (.tuple #[.string (mkS (sealL h).1), .int .i64 (sealL h).2]) ∧ Below w.heap.size w w' := by
  have KR := Lib.hid (fun W (hb : Below w.heap.size w W) => hRight_any h sv gv W (hh.below hb) hl)
  have HB := Lib.hid ((Below.refl w.heap.size w).alloc (Nat.le_refl _) (.cells (hdc h sv gv) 36))
  have R := Lib.hid (RowAt.new w (hdc h sv gv) 36)
  cases e : hdL h with
  | false =>
    have HS : Hid (sealL h = ([], 1)) := Lib.hid (by unfold sealL; rw [e]; rfl)
    rw [e] at KR
    generalize sealL h = sl at *
    clear e hh hn hl
    obtain ⟨pa, ht, ro, tx, pr, va, val, vo, ad, rd, se⟩ := h
    go_enter Try.func21, Try.ntmps21
    go_upto_region 1 with (fail)
    generalize w.alloc (.cells (hdc ⟨pa, ht, ro, tx, pr, va, val, vo, ad, rd, se⟩ sv gv) 36) = W at *
    obtain ⟨x0, x1, x2, x3, x4, x5, x6, x7, x8, x9, x10⟩ := R.out.c11
    go_wp2_with (go_at_call 23; refine (KR.out _ HB.out).mono ?_; rintro e w1 ⟨rfl, hb⟩; replace HB := Lib.hid (HB.out.trans (hb.mono HB.out.size)); clear hb)
    go_ret2
    rw [HS.out]
    exact ⟨rfl, HB.out⟩
  | true =>
    have hk := hdL_true' e
    have HS : Hid (sealL h = (sumL (recL (bareH h)).1, 0)) := Lib.hid (by unfold sealL; rw [e]; rfl)
    have hlen := rec_size (bareH_ok hk) (bareH_num hn)
    have hlens := hdL_lens e
    have KB : Hid (∀ W, Below w.heap.size w W → Calls Try.prog 45 #[hdV (bareH h) sv (.slice none 0 0)] W fun e w' => e = .returned (.tuple #[.string (mkS (recL (bareH h)).1), .int .i64 0]) ∧ Below W.heap.size W w') := Lib.hid (fun W hb => by
      have := record_any (bareH h) sv (.slice none 0 0) W ⟨(hh.below hb).1, .inl ⟨rfl, rfl⟩, fun s hs => by cases hs⟩ (bareH_num hn) hlens.1 (Nat.zero_le _)
      rw [show (recL (bareH h)).2 = 0 from by rw [(rec_ok (bareH_ok hk) (bareH_num hn)).1]] at this
      exact this)
    rw [e] at KR
    generalize recL (bareH h) = rr at *
    have KS : Hid (∀ W, Calls Try.prog 47 #[.string (mkS rr.1)] W fun e w' => e = .returned (.string (mkS (sumL rr.1))) ∧ Below W.heap.size W w') := Lib.hid (fun W => by
      have := sum_any (mkS rr.1) (by rw [mk_size]; omega) W
      rwa [bl_mk] at this)
    generalize sealL h = sl at *
    generalize sumL rr.1 = sm at *
    generalize rr.1 = r1 at *
    clear e hh hn hl hk hlen hlens
    unfold bareH at KB
    obtain ⟨pa, ht, ro, tx, pr, va, val, vo, ad, rd, se⟩ := h
    go_enter Try.func21, Try.ntmps21
    go_upto_region 1 with (fail)
    generalize w.alloc (.cells (hdc ⟨pa, ht, ro, tx, pr, va, val, vo, ad, rd, se⟩ sv gv) 36) = W at *
    obtain ⟨x0, x1, x2, x3, x4, x5, x6, x7, x8, x9, x10⟩ := R.out.c11
    go_upto_region 3 with (go_at_call 23; refine (KR.out _ HB.out).mono ?_; rintro e w1 ⟨rfl, hb⟩; replace HB := Lib.hid (HB.out.trans (hb.mono HB.out.size)); replace R := Lib.hid (R.out.belowS hb); clear hb)
    clear x0 x1 x2 x3 x4 x5 x6 x7 x8 x9 x10
    obtain ⟨x0, x1, x2, x3, x4, x5, x6, x7, x8, x9, x10⟩ := R.out.c11
    have xf := R.out.frozen 10
    have R2 := Lib.hid (show RowAt (w1.setCell ⟨w.heap.size, 10, none⟩ (.slice none 0 0)) w.heap.size (hdc ⟨pa, ht, ro, tx, pr, va, val, vo, ad, rd, []⟩ sv (.slice none 0 0)) 36 from R.out.set 10 _ rfl)
    have HB2 := Lib.hid (HB.out.setCell (p := ⟨w.heap.size, 10, none⟩) (Nat.le_refl _) (.slice none 0 0))
    go_upto_region 4 with (fail)
    generalize w1.setCell ⟨w.heap.size, 10, none⟩ (.slice none 0 0) = W2 at *
    clear x0 x1 x2 x3 x4 x5 x6 x7 x8 x9 x10 xf R HB
    obtain ⟨x0, x1, x2, x3, x4, x5, x6, x7, x8, x9, x10⟩ := R2.out.c11
    go_wp2_with (first
      | (go_at_call 45; refine (KB.out _ HB2.out).mono ?_; rintro e w2 ⟨rfl, hb⟩; replace HB2 := Lib.hid (HB2.out.trans (hb.mono HB2.out.size)); clear hb)
      | (go_at_call 47; refine (KS.out _).mono ?_; rintro e w3 ⟨rfl, hb⟩; replace HB2 := Lib.hid (HB2.out.trans (hb.mono HB2.out.size)); clear hb))
    go_ret2
    rw [HS.out]
    exact ⟨rfl, HB2.out⟩

theorem sealL_size {h : Hd} (e : hdL h = true) : (sealL h).1.length = 32 := by
  unfold sealL
  rw [e]
  exact sumL_length _
theorem sealL_code (h : Hd) : (sealL h).2 = if hdL h = true then 0 else 1 := by
  unfold sealL
  split <;> rfl

set_option maxHeartbeats 4000000 in
theorem id_any (h : Hd) (sv gv : Value) (w : World) (hh : HdAt w h sv gv) (hn : HdNum h) (hl : h.val.length ≤ 1000000) : Calls Try.prog 20 #[hdV h sv gv] w fun e w' => e = .returned (.tuple #[.string (mkS (idL h).1), .int .i64 (idL h).2]) ∧ Below w.heap.size w w' := by
  have KS := Lib.hid (fun W (hb : Below w.heap.size w W) => seal_any (inR h 0) sv gv W (hh.below hb) (inR_num hn) hl)
  have HB := Lib.hid ((Below.refl w.heap.size w).alloc (Nat.le_refl _) (.cells (hdc h sv gv) 36))
  have R := Lib.hid (RowAt.new w (hdc h sv gv) 36)
  have HI : Hid (idL h = sealL (inR h 0)) := Lib.hid rfl
  generalize idL h = il at *
  generalize sealL (inR h 0) = sl at *
  clear hh hn hl
  unfold inR at KS
  obtain ⟨pa, ht, ro, tx, pr, va, val, vo, ad, rd, se⟩ := h
  go_enter Try.func20, Try.ntmps20
  have xf := R.out.frozen 9
  have hx := R.out.c11
  obtain ⟨x0, x1, x2, x3, x4, x5, x6, x7, x8, x9, x10⟩ := hx
  go_upto_region 1 with (fail)
  have R2 := Lib.hid (show RowAt ((w.alloc (.cells (hdc ⟨pa, ht, ro, tx, pr, va, val, vo, ad, rd, se⟩ sv gv) 36)).setCell ⟨w.heap.size, 9, none⟩ (.int .u64 0)) w.heap.size (hdc ⟨pa, ht, ro, tx, pr, va, val, vo, ad, 0, se⟩ sv gv) 36 from R.out.set 9 _ rfl)
  have HB2 := Lib.hid (HB.out.setCell (p := ⟨w.heap.size, 9, none⟩) (Nat.le_refl _) (.int .u64 0))
  clear R HB
  generalize w.alloc (.cells (hdc ⟨pa, ht, ro, tx, pr, va, val, vo, ad, rd, se⟩ sv gv) 36) = W at *
  go_upto_region 2 with (fail)
  generalize W.setCell ⟨w.heap.size, 9, none⟩ (.int .u64 0) = W2 at *
  clear x0 x1 x2 x3 x4 x5 x6 x7 x8 x9 x10 xf
  obtain ⟨x0, x1, x2, x3, x4, x5, x6, x7, x8, x9, x10⟩ := R2.out.c11
  go_wp2_with (go_at_call 21; refine (KS.out _ HB2.out).mono ?_; rintro e w3 ⟨rfl, hb⟩; replace HB2 := Lib.hid (HB2.out.trans (hb.mono HB2.out.size)); clear hb)
  go_ret2
  rw [HI.out]
  exact ⟨rfl, HB2.out⟩

/-- Three fields in a block of the call's own. -/
theorem RowT.three {A : Nat → Prop} {w : World} {t1 t2 t3 : Fd} {s1 s2 s3 : Sl} {g : Nat} {cs : Array Value} {T : TypeId} (hg : w.heap[g]? = some (.cells cs T (0, 0))) (hcs : cs.toList = encFd.pre t1.val ++ [slV s1] ++ (encFd.pre t2.val ++ [slV s2]) ++ (encFd.pre t3.val ++ [slV s3])) (hA : A g) (h1 : RowT encFd A w (slV s1) t1.kids) (h2 : RowT encFd A w (slV s2) t2.kids) (h3 : RowT encFd A w (slV s3) t3.kids) :
    RowT encFd A w (.slice (some ⟨g, 0, none⟩) 3 3) [t1, t2, t3] := by
  refine ⟨[(t1.val, s1), (t2.val, s2), (t3.val, s3)], rfl, .inr ⟨⟨g, 0, none⟩, 3, rfl, Nat.le_refl _, by unfold maxLen; omega, fun j u hj => ?_⟩, fun _ ad n c e => by injection e with e _ _; injection e with e; subst e; exact hA, fun i t x e1 e2 => ?_⟩
  · have e : flat encFd.enc [(t1.val, s1), (t2.val, s2), (t3.val, s3)] = cs.toList := by rw [hcs]; rfl
    rw [e, Array.getElem?_toList] at hj
    have : w.cell? ⟨g, j, none⟩ = cs[j]? := cell_of_row w g j cs T _ hg
    rw [← hj, ← this]
    cases j <;> simp [Addr.add]
  · match i, e1, e2 with
    | 0, e1, e2 =>
      simp at e1 e2
      subst e1 e2
      cases t1 with
      | mk a ks => exact RowT.node a h1
    | 1, e1, e2 =>
      simp at e1 e2
      subst e1 e2
      cases t2 with
      | mk a ks => exact RowT.node a h2
    | 2, e1, e2 =>
      simp at e1 e2
      subst e1 e2
      cases t3 with
      | mk a ks => exact RowT.node a h3
    | i + 3, e1, e2 => simp at e1

set_option maxHeartbeats 4000000 in
theorem turn_any (h : Hd) (sv gv : Value) (w : World) (hh : HdAt w h sv gv) (hn : HdNum h) (hl : h.val.length ≤ 1000000) : Calls Try.prog 22 #[hdV h sv gv] w fun e w' => e = .returned (.tuple #[.string (mkS (turnL h).1), .int .i64 (turnL h).2]) ∧ Below w.heap.size w w' := by
  have KI := Lib.hid (fun W (hb : Below w.heap.size w W) => id_any h sv gv W (hh.below hb) hn hl)
  have HB := Lib.hid ((Below.refl w.heap.size w).alloc (Nat.le_refl _) (.cells (hdc h sv gv) 36))
  have R := Lib.hid (RowAt.new w (hdc h sv gv) 36)
  have hic : (idL h).2 = if hdL h = true then 0 else 1 := sealL_code _
  cases e : hdL h with
  | false =>
    have HS : Hid (turnL h = ([], 1)) := Lib.hid (by unfold turnL; rw [e]; rfl)
    rw [e, if_neg (by simp)] at hic
    rw [hic] at KI
    generalize turnL h = tl at *
    generalize idL h = il at *
    clear e hh hn hl hic
    obtain ⟨pa, ht, ro, tx, pr, va, val, vo, ad, rd, se⟩ := h
    go_enter Try.func22, Try.ntmps22
    go_upto_region 1 with (fail)
    generalize w.alloc (.cells (hdc ⟨pa, ht, ro, tx, pr, va, val, vo, ad, rd, se⟩ sv gv) 36) = W at *
    obtain ⟨x0, x1, x2, x3, x4, x5, x6, x7, x8, x9, x10⟩ := R.out.c11
    go_wp2_with (go_at_call 20; refine (KI.out _ HB.out).mono ?_; rintro e w1 ⟨rfl, hb⟩; replace HB := Lib.hid (HB.out.trans (hb.mono HB.out.size)); clear hb)
    go_ret2
    rw [HS.out]
    exact ⟨rfl, HB.out⟩
  | true =>
    have HS : Hid (turnL h = (sumL (turnR (mkS (idL h).1) h.rd).1, 0)) := Lib.hid (by unfold turnL; rw [e]; rfl)
    have hz : (mkS (idL h).1).size = 32 := by rw [mk_size]; exact sealL_size e
    rw [e, if_pos rfl] at hic
    rw [hic] at KI
    have htc := turnR_ok hz hn.2
    have hts : (turnR (mkS (idL h).1) h.rd).1.length ≤ 4000 := write_size (form := [98, 104, 110]) (l := turnF (mkS (idL h).1) h.rd) htc
    have hrd : ∃ n : Nat, h.rd = n := ⟨h.rd.toNat, by have := hn.2; omega⟩
    have KW : Hid (∀ W g, RowAt W g #[.int .u64 0, .string ⟨#[116, 117, 114, 110]⟩, .slice none 0 0, .int .u64 0, .string (mkS (idL h).1), .slice none 0 0, .int .u64 h.rd, .string ⟨#[]⟩, .slice none 0 0] 58 → Calls Try.prog 12 #[.string ⟨#[98, 104, 110]⟩, .slice (some ⟨g, 0, none⟩) 3 3] W fun e w' => e = .returned (.tuple #[.string (mkS (turnR (mkS (idL h).1) h.rd).1), .int .i64 0]) ∧ Below W.heap.size W w') := Lib.hid (fun W g h1 => by
      obtain ⟨n, hnn⟩ := hrd
      have hb2 : n < 18446744073709551616 := by have := hn.2; omega
      rw [hnn] at h1
      have e0 : turnF (mkS (idL h).1) h.rd = [bF turnB, bF (mkS (idL h).1), nF n] := by unfold turnF; rw [hnn]; rfl
      have := fwrite_any ⟨#[98, 104, 110]⟩ (.slice (some ⟨g, 0, none⟩) 3 3) [bF turnB, bF (mkS (idL h).1), nF n] W (by show (3 : Nat) ≤ 1000; omega) ⟨⟨(by decide : 0 < 18446744073709551616), trivial⟩, ⟨(by decide : 0 < 18446744073709551616), trivial⟩, ⟨hb2, trivial⟩, trivial⟩
        (RowT.three (t1 := bF turnB) (t2 := bF (mkS (idL h).1)) (t3 := nF n) (s1 := (none, 0, 0)) (s2 := (none, 0, 0)) (s3 := (none, 0, 0)) h1 rfl trivial RowT.nil RowT.nil RowT.nil)
      rw [← e0, show writeF (bl ⟨#[98, 104, 110]⟩) (turnF (mkS (idL h).1) h.rd) = turnR (mkS (idL h).1) h.rd from rfl, htc] at this
      exact this)
    have KS : Hid (∀ W, Calls Try.prog 47 #[.string (mkS (turnR (mkS (idL h).1) h.rd).1)] W fun e w' => e = .returned (.string (mkS (sumL (turnR (mkS (idL h).1) h.rd).1))) ∧ Below W.heap.size W w') := Lib.hid (fun W => by
      have := sum_any (mkS (turnR (mkS (idL h).1) h.rd).1) (by rw [mk_size]; omega) W
      rwa [bl_mk] at this)
    clear hic hz htc hts hrd e hn hl hh
    generalize turnL h = tl at *
    generalize sumL (turnR (mkS (idL h).1) h.rd).1 = sm at *
    generalize (turnR (mkS (idL h).1) h.rd).1 = tr at *
    generalize idL h = il at *
    obtain ⟨pa, ht, ro, tx, pr, va, val, vo, ad, rd, se⟩ := h
    simp only at KW
    go_enter Try.func22, Try.ntmps22
    go_upto_region 1 with (fail)
    generalize w.alloc (.cells (hdc ⟨pa, ht, ro, tx, pr, va, val, vo, ad, rd, se⟩ sv gv) 36) = W at *
    obtain ⟨x0, x1, x2, x3, x4, x5, x6, x7, x8, x9, x10⟩ := R.out.c11
    go_upto_region 4 with (go_at_call 20; refine (KI.out _ HB.out).mono ?_; rintro e w1 ⟨rfl, hb⟩; replace HB := Lib.hid (HB.out.trans (hb.mono HB.out.size)); replace R := Lib.hid (R.out.belowS hb); clear hb)
    clear x0 x1 x2 x3 x4 x5 x6 x7 x8 x9 x10
    obtain ⟨x0, x1, x2, x3, x4, x5, x6, x7, x8, x9, x10⟩ := R.out.c11
    have RN := Lib.hid (RowAt.new w1 #[.int .u64 0, .string ⟨#[116, 117, 114, 110]⟩, .slice none 0 0, .int .u64 0, .string (mkS il.1), .slice none 0 0, .int .u64 rd, .string ⟨#[]⟩, .slice none 0 0] 58)
    have HBN := Lib.hid (HB.out.alloc HB.out.size (.cells #[.int .u64 0, .string ⟨#[116, 117, 114, 110]⟩, .slice none 0 0, .int .u64 0, .string (mkS il.1), .slice none 0 0, .int .u64 rd, .string ⟨#[]⟩, .slice none 0 0] 58))
    go_wp2_with (first
      | (go_at_call 12; refine (KW.out _ _ RN.out).mono ?_; rintro e w2 ⟨rfl, hb⟩; replace HBN := Lib.hid (HBN.out.trans (hb.mono HBN.out.size)); clear hb)
      | (go_at_call 47; refine (KS.out _).mono ?_; rintro e w3 ⟨rfl, hb⟩; replace HBN := Lib.hid (HBN.out.trans (hb.mono HBN.out.size)); clear hb))
    go_ret2
    rw [HS.out]
    exact ⟨rfl, HBN.out⟩
end Go.Proofs.Ythipnbiilobjeaa

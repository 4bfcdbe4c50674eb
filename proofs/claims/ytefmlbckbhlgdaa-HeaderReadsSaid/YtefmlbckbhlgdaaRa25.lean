/- The reference's reading of a header, walked. Header: HeaderBack walked. Header: HeaderReads walked. -/
import Derived.Deep.RegionWith
import Derived.Deep.DeepCutAuto
import Derived.Test.YtefmlbckbhlgdaaRa21
import Derived.Test.YtefmlbckbhlgdaaRa22
import Derived.Test.YtefmlbckbhlgdaaRa24
namespace Go.Proofs.Ytefmlbckbhlgdaa
open Go.RowKit Go.Shelf
set_option maxRecDepth 100000
def fromS1 (s : ByteArray) : Sg := if sigOk (sgFrom s) = true then sgFrom s else zSg
theorem fromS_eq {s : ByteArray} {b : Bool} (e : sigOk (sgFrom s) = b) : fromS s = if b = true then (sgFrom s, 0) else (zSg, 4) := by
  unfold fromS
  rw [e]
theorem fst_of {α β : Type} {f : α × β} {g : α} {c : β} (h : f = (g, c)) : f.1 = g := by rw [h]
theorem fromS1_yes {s : ByteArray} (e : sigOk (sgFrom s) = true) : fromS1 s = sgFrom s := by
  unfold fromS1
  rw [if_pos e]
theorem fromS1_no {s : ByteArray} (e : sigOk (sgFrom s) = false) : fromS1 s = zSg := by
  unfold fromS1
  rw [if_neg (by rw [e]; exact Bool.false_ne_true)]
theorem fromS1_eq (s : ByteArray) : (fromS s).1 = fromS1 s := by
  cases e : sigOk (sgFrom s) with
  | false => rw [fromS1_no e]; exact fst_of ((fromS_eq e).trans (if_neg Bool.false_ne_true))
  | true => rw [fromS1_yes e]; exact fst_of ((fromS_eq e).trans (if_pos rfl))
theorem zSg_ok : zSg.ok := ⟨⟨⟨Int.le_refl 0, by show (0 : Int) < _; omega⟩, ⟨Int.le_refl 0, by show (0 : Int) < _; omega⟩, ⟨Int.le_refl 0, by show (0 : Int) < _; omega⟩, ⟨Int.le_refl 0, by show (0 : Int) < _; omega⟩⟩, ⟨⟨Int.le_refl 0, by show (0 : Int) < _; omega⟩, ⟨Int.le_refl 0, by show (0 : Int) < _; omega⟩, ⟨Int.le_refl 0, by show (0 : Int) < _; omega⟩, ⟨Int.le_refl 0, by show (0 : Int) < _; omega⟩⟩⟩
theorem fromS1_ok (s : ByteArray) : (fromS1 s).ok := by
  cases e : sigOk (sgFrom s) with
  | false => rw [fromS1_no e]; exact zSg_ok
  | true => rw [fromS1_yes e]; exact sgFrom_ok s
/-- The header that the reference lays out of fields. -/
def refHd (x : Raw) : Hd := ⟨x.pa, x.ht, x.ro, x.tx, x.pr, x.va, x.vs, x.vo, decide (0 < x.ad), x.rd, x.ss.map fromS1⟩
theorem refHd_num {x : Raw} (h : x.ok) : HdNum (refHd x) := ⟨⟨Int.natCast_nonneg _, by have := h.2.1; show (x.ht : Int) < _; omega⟩, ⟨Int.natCast_nonneg _, by have := h.2.2.2.1; show (x.rd : Int) < _; omega⟩⟩
theorem readH_seen {s : List UInt8} {x : Raw} (h : readF hform s = (rawF x, 0)) : readH s = seenH x := by
  unfold readH
  rw [h, if_pos rfl, rawL_rawF]
theorem ref_yes {s : ByteArray} {x : Raw} (h : readF hform (bl s) = (rawF x, 0)) (ho : x.ok) (h1 : hdL (refHd x) = true) (h2 : (recL (refHd x)).1 = bl s) : seenH x = (refHd x, 0) := by
  rw [← readH_seen h, ← h2]
  exact readH_rec (hdOk_of h1) (refHd_num ho) (fun g hg => by
    obtain ⟨t, _, rfl⟩ := List.mem_map.1 hg
    exact fromS1_ok t)
theorem refHd_toH {x : Raw} (h1 : x.ad ≤ 1) (h2 : hdL (toH x) = true) : refHd x = toH x := by
  unfold refHd toH
  have e1 : decide (0 < x.ad) = decide (x.ad = 1) := by
    rcases (show x.ad = 0 ∨ x.ad = 1 by omega) with e | e <;> rw [e] <;> rfl
  have e2 : x.ss.map fromS1 = x.ss.map sgFrom := List.map_congr_left (fun t ht => by
    have := (hdOk_of h2).2.2.2.2.2.2.2.2 (sgFrom t) (List.mem_map.2 ⟨t, ht, rfl⟩)
    exact fromS1_yes this)
  rw [e1, e2]
theorem ref_no {s : ByteArray} {x : Raw} (h : readF hform (bl s) = (rawF x, 0)) (_ : x.ok) (hn : hdL (refHd x) = true → (recL (refHd x)).1 ≠ bl s) : seenH x = (zHd, 4) := by
  by_cases hc : x.ad ≤ 1 ∧ hdL (toH x) = true
  · have e := refHd_toH hc.1 hc.2
    rw [e] at hn
    have hs : readH (bl s) = (toH x, 0) := by
      rw [readH_seen h]
      unfold seenH
      rw [if_pos hc]
    have := (readH_ok (s := bl s) (by rw [hs])).2.2.2
    rw [hs] at this
    exact absurd (by rw [this]) (hn hc.2)
  · unfold seenH
    rw [if_neg hc]

set_option maxHeartbeats 2000000 in
theorem rhread_bad (s : ByteArray) (w : World) (hs : s.size ≤ 4100) (hb : (readF hform (bl s)).2 ≠ 0) : Calls Try.prog 8 #[.string s] w (HReadPost (zHd, 4) w) := by
  have KF := Lib.hid (fun W => rfread_any hformS htoks hflat hkindsT s hs W)
  have hform' : bl (hformS : ByteArray) = hform := rfl
  rw [hform'] at KF
  clear hform'
  generalize readF hform (bl s) = r at *
  obtain ⟨l, e0⟩ := r
  simp only at hb
  have R0 := Lib.hid (RowAt.new w #[.string ⟨#[]⟩, .int .u64 0, .string ⟨#[]⟩, .string ⟨#[]⟩, .string ⟨#[]⟩, .string ⟨#[]⟩, .slice none 0 0, .string ⟨#[]⟩, .bool false, .int .u64 0, .slice none 0 0] 26)
  have HB := Lib.hid (bel1 w (.cells #[.string ⟨#[]⟩, .int .u64 0, .string ⟨#[]⟩, .string ⟨#[]⟩, .string ⟨#[]⟩, .string ⟨#[]⟩, .slice none 0 0, .string ⟨#[]⟩, .bool false, .int .u64 0, .slice none 0 0] 26))
  go_enter Try.func8, Try.ntmps8
  go_upto_region 3 with (go_at_call 27; refine (KF.out _).mono ?_; rintro e w1 ⟨⟨p, m, c⟩, cd, rfl, hbl, hans⟩; dsimp only [slV] at hans ⊢; have hcd := hans.resolve_left (fun h => hb h.1); have q : (cd != 0) = true := (by simpa using hcd.2); clear hans hcd; replace R0 := Lib.hid (R0.out.belowS hbl); replace HB := Lib.hid (HB.out.trans (hbl.mono HB.out.size)); clear hbl)
  obtain ⟨x0, x1, x2, x3, x4, x5, x6, x7, x8, x9, x10⟩ := R0.out.c11
  obtain ⟨f0, f1, f2, f3, f4, f5, f6, f7, f8, f9, f10⟩ := R0.out.f11
  go_wp2
  have RZ := Lib.hid (show RowAt (((((((((((w1.setCell ⟨w.heap.size, 0, none⟩ (.string ⟨#[]⟩)).setCell ⟨w.heap.size, 1, none⟩ (.int .u64 0)).setCell ⟨w.heap.size, 2, none⟩ (.string ⟨#[]⟩)).setCell ⟨w.heap.size, 3, none⟩ (.string ⟨#[]⟩)).setCell ⟨w.heap.size, 4, none⟩ (.string ⟨#[]⟩)).setCell ⟨w.heap.size, 5, none⟩ (.string ⟨#[]⟩)).setCell ⟨w.heap.size, 6, none⟩ (.slice none 0 0)).setCell ⟨w.heap.size, 7, none⟩ (.string ⟨#[]⟩)).setCell ⟨w.heap.size, 8, none⟩ (.bool false)).setCell ⟨w.heap.size, 9, none⟩ (.int .u64 0)).setCell ⟨w.heap.size, 10, none⟩ (.slice none 0 0)) w.heap.size #[.string ⟨#[]⟩, .int .u64 0, .string ⟨#[]⟩, .string ⟨#[]⟩, .string ⟨#[]⟩, .string ⟨#[]⟩, .slice none 0 0, .string ⟨#[]⟩, .bool false, .int .u64 0, .slice none 0 0] 26 from R0.out.set11 (.string ⟨#[]⟩) (.int .u64 0) (.string ⟨#[]⟩) (.string ⟨#[]⟩) (.string ⟨#[]⟩) (.string ⟨#[]⟩) (.slice none 0 0) (.string ⟨#[]⟩) (.bool false) (.int .u64 0) (.slice none 0 0))
  have HZ := Lib.hid (show Below w.heap.size w (((((((((((w1.setCell ⟨w.heap.size, 0, none⟩ (.string ⟨#[]⟩)).setCell ⟨w.heap.size, 1, none⟩ (.int .u64 0)).setCell ⟨w.heap.size, 2, none⟩ (.string ⟨#[]⟩)).setCell ⟨w.heap.size, 3, none⟩ (.string ⟨#[]⟩)).setCell ⟨w.heap.size, 4, none⟩ (.string ⟨#[]⟩)).setCell ⟨w.heap.size, 5, none⟩ (.string ⟨#[]⟩)).setCell ⟨w.heap.size, 6, none⟩ (.slice none 0 0)).setCell ⟨w.heap.size, 7, none⟩ (.string ⟨#[]⟩)).setCell ⟨w.heap.size, 8, none⟩ (.bool false)).setCell ⟨w.heap.size, 9, none⟩ (.int .u64 0)).setCell ⟨w.heap.size, 10, none⟩ (.slice none 0 0)) from below_set11 (o := 0) HB.out (Nat.le_refl _) (.string ⟨#[]⟩) (.int .u64 0) (.string ⟨#[]⟩) (.string ⟨#[]⟩) (.string ⟨#[]⟩) (.string ⟨#[]⟩) (.slice none 0 0) (.string ⟨#[]⟩) (.bool false) (.int .u64 0) (.slice none 0 0))
  generalize (((((((((((w1.setCell ⟨w.heap.size, 0, none⟩ (.string ⟨#[]⟩)).setCell ⟨w.heap.size, 1, none⟩ (.int .u64 0)).setCell ⟨w.heap.size, 2, none⟩ (.string ⟨#[]⟩)).setCell ⟨w.heap.size, 3, none⟩ (.string ⟨#[]⟩)).setCell ⟨w.heap.size, 4, none⟩ (.string ⟨#[]⟩)).setCell ⟨w.heap.size, 5, none⟩ (.string ⟨#[]⟩)).setCell ⟨w.heap.size, 6, none⟩ (.slice none 0 0)).setCell ⟨w.heap.size, 7, none⟩ (.string ⟨#[]⟩)).setCell ⟨w.heap.size, 8, none⟩ (.bool false)).setCell ⟨w.heap.size, 9, none⟩ (.int .u64 0)).setCell ⟨w.heap.size, 10, none⟩ (.slice none 0 0)) = WZ at *
  obtain ⟨k0, k1, k2, k3, k4, k5, k6, k7, k8, k9, k10⟩ := RZ.out.c11
  clear x0 f0 x1 f1 x2 f2 x3 f3 x4 f4 x5 f5 x6 f6 x7 f7 x8 f8 x9 f9 x10 f10 R0 HB RZ KF
  refine bodyPost_ret (v := .tuple #[.agg #[.string ⟨#[]⟩, .int .u64 0, .string ⟨#[]⟩, .string ⟨#[]⟩, .string ⟨#[]⟩, .string ⟨#[]⟩, .slice none 0 0, .string ⟨#[]⟩, .bool false, .int .u64 0, .slice none 0 0], .int .i64 4]) (by simp [results, Try.results8, go_sem, k0, k1, k2, k3, k4, k5, k6, k7, k8, k9, k10]) rfl ?_
  exact ⟨.slice none 0 0, .slice none 0 0, rfl, zHd_at _, HZ.out⟩

set_option maxHeartbeats 8000000 in
theorem rhread_good (s : ByteArray) (w : World) (hs : s.size ≤ 4100) (x : Raw) (hx : readF hform (bl s) = (rawF x, 0)) (ho : x.ok) : Calls Try.prog 8 #[.string s] w (HReadPost (seenH x) w) := by
  have KF := Lib.hid (fun W => rfread_any hformS htoks hflat hkindsT s hs W)
  have hform' : bl (hformS : ByteArray) = hform := rfl
  rw [hform', hx] at KF
  have HXX := Lib.hid hx
  clear hform' hx
  have R0 := Lib.hid (RowAt.new w #[.string ⟨#[]⟩, .int .u64 0, .string ⟨#[]⟩, .string ⟨#[]⟩, .string ⟨#[]⟩, .string ⟨#[]⟩, .slice none 0 0, .string ⟨#[]⟩, .bool false, .int .u64 0, .slice none 0 0] 26)
  have HB := Lib.hid (bel1 w (.cells #[.string ⟨#[]⟩, .int .u64 0, .string ⟨#[]⟩, .string ⟨#[]⟩, .string ⟨#[]⟩, .string ⟨#[]⟩, .slice none 0 0, .string ⟨#[]⟩, .bool false, .int .u64 0, .slice none 0 0] 26))
  have HO := Lib.hid ho
  clear ho
  generalize hr : seenH x = r at *
  have HR := Lib.hid hr
  clear hr
  obtain ⟨pa, ht, ro, tx, pr, va, vs, vo, ad, rd, ss⟩ := x
  have hv40 : vs.length ≤ 40 := HO.out.2.2.2.2.1
  have hs40 : ss.length ≤ 40 := HO.out.2.2.2.2.2
  obtain ⟨bd, hbd⟩ : ∃ b, decide (0 < ad) = b := ⟨_, rfl⟩
  have hbd2 : decide ((0 : Int) < (ad : Int)) = bd := by
    rw [← hbd]
    by_cases h : 0 < ad
    · rw [decide_eq_true h, decide_eq_true (by omega)]
    · rw [decide_eq_false h, decide_eq_false (by omega)]
  have HBB := Lib.hid hbd
  go_enter Try.func8, Try.ntmps8
  go_upto_region 4 with (go_at_call 27; refine (KF.out _).mono ?_; rintro e w1 ⟨⟨p, m, c⟩, cd, rfl, hbl, hans⟩; dsimp only [slV] at hans ⊢; obtain ⟨-, rfl, hrt⟩ := hans.resolve_right (fun h => h.1 rfl); replace R0 := Lib.hid (R0.out.belowS hbl); have HT := Lib.hid (show RowT encFd _ w1 (.slice p m c) (rawF ⟨pa, ht, ro, tx, pr, va, vs, vo, ad, rd, ss⟩) from hrt); replace HB := Lib.hid (HB.out.trans (hbl.mono HB.out.size)); clear hbl hrt hans)
  clear KF
  obtain ⟨p', c', e', l1, l2⟩ := HT.out.shape
  injection e' with e1 e2 e3
  replace e2 : m = 11 := e2
  replace l1 : 11 ≤ c' := l1
  subst e1 e2 e3
  unfold maxLen at l2
  obtain ⟨ad0, s0, e0, -⟩ := RowT.at2 HT.out (i := 0) (t := bF pa) rfl
  subst e0
  obtain ⟨t0, a0, b0, -, -⟩ := fd_cells HT.out (i := 0) (t := bF pa) rfl
  obtain ⟨t1, a1, b1, -, -⟩ := fd_cells HT.out (i := 1) (t := nF ht) rfl
  obtain ⟨t2, a2, b2, -, -⟩ := fd_cells HT.out (i := 2) (t := bF ro) rfl
  obtain ⟨t3, a3, b3, -, -⟩ := fd_cells HT.out (i := 3) (t := bF tx) rfl
  obtain ⟨t4, a4, b4, -, -⟩ := fd_cells HT.out (i := 4) (t := bF pr) rfl
  obtain ⟨t5, a5, b5, -, -⟩ := fd_cells HT.out (i := 5) (t := bF va) rfl
  obtain ⟨⟨p6, n6, k6⟩, -, -, c6, rw6⟩ := fd_cells HT.out (i := 6) (t := lF (vs.map bF)) rfl
  obtain ⟨t7, a7, b7, -, -⟩ := fd_cells HT.out (i := 7) (t := bF vo) rfl
  obtain ⟨t8, a8, b8, -, -⟩ := fd_cells HT.out (i := 8) (t := nF ad) rfl
  obtain ⟨t9, a9, b9, -, -⟩ := fd_cells HT.out (i := 9) (t := nF rd) rfl
  obtain ⟨⟨p10, n10, k10⟩, -, -, c10, rw10⟩ := fd_cells HT.out (i := 10) (t := lF (ss.map bF)) rfl
  simp only [mkS_bl] at b0 b2 b3 b4 b5 b7
  have RW6 := Lib.hid (show RowT encFd (fun _ => True) w1 (.slice p6 n6 k6) (vs.map bF) from RowT.weaken (fun _ _ => trivial) rw6)
  have RW10 := Lib.hid (show RowT encFd (fun _ => True) w1 (.slice p10 n10 k10) (ss.map bF) from RowT.weaken (fun _ _ => trivial) rw10)
  clear b1 b8 b9 a0 a2 a3 a4 a5 a7 rw6 rw10 HT t0 t1 t2 t3 t4 t5 t7 t8 t9
  obtain ⟨_, _, e6, l3, l4⟩ := RW6.out.shape
  obtain ⟨_, _, e10, l5, l6⟩ := RW10.out.shape
  injection e6 with f1 f2 f3
  injection e10 with g1 g2 g3
  rw [List.length_map] at f2 g2 l3 l5
  subst f1 f2 f3 g1 g2 g3
  unfold maxLen at l4 l6
  have HC6 := Lib.hid (show w1.cell? ⟨ad0.block, ad0.off + 18 + 2, none⟩ = some (.slice p6 vs.length k6) from c6)
  have HC10 := Lib.hid (show w1.cell? ⟨ad0.block, ad0.off + 30 + 2, none⟩ = some (.slice p10 ss.length k10) from c10)
  have HC8 := Lib.hid (show w1.cell? ⟨ad0.block, ad0.off + 24, none⟩ = some (.int .u64 (ad : Int)) from a8)
  clear c6 c10
  obtain ⟨Ws, g0, g1, g2⟩ : ∃ Ws : Nat → World, Ws 0 = w1.drew ∧ Ws 1 = w1.drew.alloc (.cells #[.string ⟨#[]⟩, .int .u64 0, .string ⟨#[]⟩, .string ⟨#[]⟩, .string ⟨#[]⟩, .string ⟨#[]⟩, .slice none 0 0, .string ⟨#[]⟩, .bool false, .int .u64 0, .slice none 0 0] 26) ∧ Ws 2 = (w1.alloc (.cells #[.string pa, .int .u64 (ht : Int), .string ro, .string tx, .string pr, .string va, .slice none 0 0, .string vo, .bool (bd), .int .u64 (rd : Int), .slice none 0 0] 26)).drew :=
    ⟨fun s => match s with | 0 => w1.drew | 1 => w1.drew.alloc (.cells #[.string ⟨#[]⟩, .int .u64 0, .string ⟨#[]⟩, .string ⟨#[]⟩, .string ⟨#[]⟩, .string ⟨#[]⟩, .slice none 0 0, .string ⟨#[]⟩, .bool false, .int .u64 0, .slice none 0 0] 26) | _ => (w1.alloc (.cells #[.string pa, .int .u64 (ht : Int), .string ro, .string tx, .string pr, .string va, .slice none 0 0, .string vo, .bool (bd), .int .u64 (rd : Int), .slice none 0 0] 26)).drew, rfl, rfl, rfl⟩
  have hW : ∀ s, s ≤ 2 → Below w1.heap.size w1 (Ws s) := fun s hs => by
    match s, hs with
    | 0, _ => rw [g0]; exact (Below.refl _ _).drew
    | 1, _ => rw [g1]; exact (Below.refl _ _).drew.alloc (Nat.le_refl _) _
    | 2, _ => rw [g2]; exact ((Below.refl _ _).alloc (Nat.le_refl _) _).drew
  have key : ∀ {a : Addr} {v : Value}, w1.cell? a = some v → ∀ s : { s : Nat // s ≤ 2 }, (Ws s.1).cell? a = some v := fun h ⟨s, hs⟩ => by
    rw [(hW s hs).cell (block_lt_of_cell h)]; exact h
  replace b0 := key b0
  replace a1 := key a1
  replace b2 := key b2
  replace b3 := key b3
  replace b4 := key b4
  replace b5 := key b5
  replace b7 := key b7
  replace a8 := key a8
  replace a9 := key a9
  have HW := Lib.hid hW
  have G0 := Lib.hid g0
  have G1 := Lib.hid g1
  have G2 := Lib.hid g2
  have HL := Lib.hid R0.out.lt
  clear key hW g0 g1 g2
  simp only [Nat.zero_mul, Nat.one_mul, Nat.reduceMul, Addr.add_zero', addr_add1 _ 2, addr_add1 _ 5, addr_add1 _ 8, addr_add1 _ 11, addr_add1 _ 14, addr_add1 _ 20, addr_add1 _ 23, addr_add1 _ 26, Nat.reduceAdd] at b0 a1 b2 b3 b4 b5 b7 a8 a9
  (refine region_stages [38, 39] (fun k => 2) Ws mix ?hB G0.out ?_; case hB => kernel_rfl); ((with_reducible refine stg_step 2 ?hkk ?_); (case hkk => rfl); intro K hK; go_simp; (with_reducible refine hK _ ?_; clear hK K)); ((with_reducible refine stg_step 2 ?hkk ?_); (case hkk => rfl); intro K hK; go_simp; (with_reducible refine hK _ ?_; clear hK K)); ((with_reducible refine stg_step 2 ?hkk ?_); (case hkk => rfl); intro K hK; go_simp; (with_reducible refine hK _ ?_; clear hK K)); ((with_reducible refine stg_step 2 ?hkk ?_); (case hkk => rfl); intro K hK; go_simp; (with_reducible refine hK _ ?_; clear hK K)); ((with_reducible refine stg_step 2 ?hkk ?_); (case hkk => rfl); intro K hK; go_simp; (with_reducible refine hK _ ?_; clear hK K)); ((with_reducible refine stg_step 2 ?hkk ?_); (case hkk => rfl); intro K hK; go_simp; (with_reducible refine hK _ ?_; clear hK K)); ((with_reducible refine stg_step 2 ?hkk ?_); (case hkk => rfl); intro K hK; go_simp; (with_reducible refine hK _ ?_; clear hK K)); ((with_reducible refine stg_step 2 ?hkk ?_); (case hkk => rfl); intro K hK; go_simp; (with_reducible refine hK _ ?_; clear hK K)); ((with_reducible refine stg_step 2 ?hkk ?_); (case hkk => rfl); intro K hK; go_simp; (with_reducible refine hK _ ?_; clear hK K)); ((with_reducible refine stg_step 2 ?hkk ?_); (case hkk => rfl); intro K hK; go_simp; (with_reducible refine hK _ ?_; clear hK K)); ((with_reducible refine stg_step 2 ?hkk ?_); (case hkk => rfl); intro K hK; go_simp; (with_reducible refine hK _ ?_; clear hK K)); ((with_reducible refine stg_step 2 ?hkk ?_); (case hkk => rfl); intro K hK; go_simp; (with_reducible refine hK _ ?_; clear hK K)); ((with_reducible refine stg_step 2 ?hkk ?_); (case hkk => rfl); intro K hK; go_simp; (with_reducible refine hK _ ?_; clear hK K)); ((with_reducible refine stg_step 2 ?hkk ?_); (case hkk => rfl); intro K hK; go_simp; (with_reducible refine hK _ ?_; clear hK K)); ((with_reducible refine stg_step 2 ?hkk ?_); (case hkk => rfl); intro K hK; go_simp; (with_reducible refine hK _ ?_; clear hK K)); ((with_reducible refine stg_step 2 ?hkk ?_); (case hkk => rfl); intro K hK; go_simp; (with_reducible refine hK _ ?_; clear hK K)); ((with_reducible refine stg_step 2 ?hkk ?_); (case hkk => rfl); intro K hK; go_simp; (with_reducible refine hK _ ?_; clear hK K)); ((with_reducible refine stg_step 2 ?hkk ?_); (case hkk => rfl); intro K hK; go_simp; (with_reducible refine hK _ ?_; clear hK K)); ((with_reducible refine stg_step 2 ?hkk ?_); (case hkk => rfl); intro K hK; go_simp; (with_reducible refine hK _ ?_; clear hK K)); ((with_reducible refine stg_step 2 ?hkk ?_); (case hkk => rfl); intro K hK; go_simp; (with_reducible refine hK _ ?_; clear hK K)); ((with_reducible refine stg_step 2 ?hkk ?_); (case hkk => rfl); intro K hK; go_simp; (with_reducible refine hK _ ?_; clear hK K)); ((with_reducible refine stg_step 2 ?hkk ?_); (case hkk => rfl); intro K hK; go_simp; (with_reducible refine hK _ ?_; clear hK K)); ((with_reducible refine stg_step 2 ?hkk ?_); (case hkk => rfl); intro K hK; go_simp; (with_reducible refine hK _ ?_; clear hK K)); ((with_reducible refine stg_step 2 ?hkk ?_); (case hkk => rfl); intro K hK; go_simp; (with_reducible refine hK _ ?_; clear hK K)); ((with_reducible refine stg_step 2 ?hkk ?_); (case hkk => rfl); intro K hK; go_simp; (with_reducible refine hK _ ?_; clear hK K)); ((with_reducible refine stg_step 2 ?hkk ?_); (case hkk => rfl); intro K hK; go_simp; (with_reducible refine hK _ ?_; clear hK K)); ((with_reducible refine stg_step 2 ?hkk ?_); (case hkk => rfl); intro K hK; go_simp; (with_reducible refine hK _ ?_; clear hK K)); ((with_reducible refine stg_step 2 ?hkk ?_); (case hkk => rfl); intro K hK; go_simp; (with_reducible refine hK _ ?_; clear hK K)); ((with_reducible refine stg_step 2 ?hkk ?_); (case hkk => rfl); intro K hK; go_simp; (with_reducible refine hK _ ?_; clear hK K)); ((with_reducible refine stg_step 2 ?hkk ?_); (case hkk => rfl); intro K hK; go_simp; (with_reducible refine hK _ ?_; clear hK K)); ((with_reducible refine stg_step 2 ?hkk ?_); (case hkk => rfl); intro K hK; go_simp; (with_reducible refine hK _ ?_; clear hK K)); ((with_reducible refine stg_step 2 ?hkk ?_); (case hkk => rfl); intro K hK; go_simp; (with_reducible refine hK _ ?_; clear hK K)); ((with_reducible refine stg_step 2 ?hkk ?_); (case hkk => rfl); intro K hK; go_simp; (with_reducible refine hK _ ?_; clear hK K)); ((with_reducible refine stg_step 2 ?hkk ?_); (case hkk => rfl); intro K hK; go_simp; (with_reducible refine hK _ ?_; clear hK K)); ((with_reducible refine stg_step 2 ?hkk ?_); (case hkk => rfl); intro K hK; go_simp; (with_reducible refine hK _ ?_; clear hK K)); ((with_reducible refine stg_step 2 ?hkk ?_); (case hkk => rfl); intro K hK; go_simp; (with_reducible refine hK _ ?_; clear hK K)); ((with_reducible refine stg_step 2 ?hkk ?_); (case hkk => rfl); intro K hK; go_simp; (with_reducible refine hK _ ?_; clear hK K)); ((with_reducible refine stg_step 2 ?hkk ?_); (case hkk => rfl); intro K hK; go_simp; (with_reducible refine hK _ ?_; clear hK K)); (refine stg_eff 0 (.pointer (some ⟨w1.heap.size, 0, none⟩)) rfl (by decide) rfl ?he ?_; case he => (show effUpon (Ws 1) _ (Sem.run _ _ (Ws 0)); (rw [G1.out, G0.out]; unfold effUpon; go_simp))); go_simp; (refine stg_eff 1 (undef) rfl (by decide) rfl ?he ?_; case he => (show effUpon (Ws 2) _ (Sem.run _ _ (Ws 1)); (rw [G2.out, G1.out]; unfold effUpon; go_simp))); go_simp; (with_reducible refine stg_nil ?_)
  clear hbd hbd2
  have RH := Lib.hid (show RowAt (Ws 2) w1.heap.size #[.string pa, .int .u64 (ht : Int), .string ro, .string tx, .string pr, .string va, .slice none 0 0, .string vo, .bool (bd), .int .u64 (rd : Int), .slice none 0 0] 26 from by rw [G2.out]; exact (RowAt.new _ _ _).drew)
  have HB1 := Lib.hid (HW.out 2 (Nat.le_refl _))
  have O0 : Hid (OwnE encS 9 (Ws 2) (w1.heap.size + 1) (.slice none 0 0) (vs.take 0)) := Lib.hid (OwnE.nil encS _ _ _)
  clear G0 G1 G2 HW b0 a1 b2 b3 b4 b5 b7 a8 a9
  generalize Ws 2 = W2 at *
  clear Ws
  have y6 := (HB1.out.cell (block_lt_of_cell HC6.out)).trans HC6.out
  go_upto_region 6 with (fail)
  clear y6
  go_loopw [64] (fun s64 wr => ∃ (i : Nat) (p : Option Addr) (c : Nat), i ≤ vs.length ∧ s64 = .int .i64 i ∧ Hid (RowAt wr w1.heap.size #[.string pa, .int .u64 (ht : Int), .string ro, .string tx, .string pr, .string va, .slice p i c, .string vo, .bool (bd), .int .u64 (rd : Int), .slice none 0 0] 26) ∧ Hid (OwnE encS 9 wr (w1.heap.size + 1) (.slice p i c) (vs.take i)) ∧ Hid (Below w1.heap.size w1 wr)) (fun s _ => vs.length - (intOf s).toNat)
  case atStart => exact ⟨0, none, 0, Nat.zero_le _, rfl, RH, O0, HB1⟩
  case round =>
    clear RH O0 HB1
    obtain ⟨i, p, c, hi, rfl, rh, ho, hb⟩ := hrel
    have RH := Lib.hid rh.out
    have O := Lib.hid ho.out
    have HB1 := Lib.hid hb.out
    clear rh ho hb
    have HTL : Hid ((vs.take i).length = i) := Lib.hid (by simp; omega)
    by_cases hlt : i < vs.length
    · obtain ⟨s1, hs1⟩ : ∃ s, vs[i]? = some s := ⟨_, List.getElem?_eq_getElem hlt⟩
      have HTK : Hid (vs.take i ++ [s1] = vs.take (i + 1)) := Lib.hid (by rw [List.take_add_one, hs1]; rfl)
      have hrow := RowT.below RW6.out HB1.out (Nat.le_refl _)
      obtain ⟨a6, _, e0, -⟩ := RowT.at2 hrow (i := i) (t := bF s1) (by rw [List.getElem?_map, hs1]; rfl)
      subst e0
      obtain ⟨⟨q, qn, qc⟩, d0, d1, d2, -⟩ := fd_cells hrow (i := i) (t := bF s1) (by rw [List.getElem?_map, hs1]; rfl)
      clear hrow hs1
      rw [mkS_bl] at d1
      replace d0 : wr.cell? (a6.add (i * 3)) = some (.int .u64 0) := d0
      replace d2 : wr.cell? ⟨(a6.add (i * 3)).block, (a6.add (i * 3)).off + 2, none⟩ = some (.slice q qn qc) := d2
      go_upto_region 8 with (fail)
      have RF := Lib.hid (RowAt.new wr #[.int .u64 0, .string s1, .slice q qn qc] 64)
      replace RH := Lib.hid (RH.out.alloc (.cells #[.int .u64 0, .string s1, .slice q qn qc] 64))
      replace O := Lib.hid (OwnE.below encS O.out (bel1 wr (.cells #[.int .u64 0, .string s1, .slice q qn qc] 64)) (Nat.le_refl _))
      replace HB1 := Lib.hid (HB1.out.alloc HB1.out.size (.cells #[.int .u64 0, .string s1, .slice q qn qc] 64))
      have hf0 : (wr.alloc (.cells #[.int .u64 0, .string s1, .slice q qn qc] 64)).heap.size = wr.heap.size + 1 := by simp
      generalize hW3 : wr.alloc (.cells #[.int .u64 0, .string s1, .slice q qn qc] 64) = W3 at *
      clear hW3 d0 d1 d2
      obtain ⟨y0, y1, y2, -, -, -⟩ := RF.out.c3
      have z6 : W3.cell? ⟨w1.heap.size, 6, none⟩ = some (.slice p i c) := RH.out.cell 6
      have R4 := Lib.hid (RowAt.new W3 #[.string s1] 9)
      have RH4 := Lib.hid (RH.out.alloc (.cells #[.string s1] 9))
      have O4 := Lib.hid (OwnE.below encS O.out (bel1 W3 (.cells #[.string s1] 9)) (Nat.le_refl _))
      have HB4 := Lib.hid (HB1.out.alloc HB1.out.size (.cells #[.string s1] 9))
      have HL4 := Lib.hid (RowE.lit encS R4.out s1 rfl)
      have HSZ : Hid (w1.heap.size + 1 ≤ (W3.alloc (.cells #[.string s1] 9)).heap.size) := Lib.hid RH4.out.lt
      clear RF RH O HB1 hf0
      go_upto_region 9 with (at_builtin; refine wpList_append_rowE encS Try.underlying23 info_str rfl rfl _ _ rfl (w1.heap.size + 1) _ (vs.take i) rfl O4.out _ [s1] rfl HL4.out (by unfold maxLen; rw [HTL.out]; simp; omega) (by rw [HTL.out]; simp; omega) HSZ.out ?_)
      intro v' w' ho hbb hz _
      obtain ⟨p', c', e, _, _⟩ := RowE.shape encS (OwnE.row encS ho)
      rw [List.length_append, HTL.out, List.length_singleton] at e
      subst e
      have RH5 := Lib.hid (RH4.out.below (hbb _ (Below.refl _ _)) (Nat.lt_succ_self _))
      have HB5 := Lib.hid (HB4.out.trans ((hbb _ (Below.refl _ _)).mono (Nat.le_succ _)))
      have O5 := Lib.hid ho
      clear ho hbb hz O4 HB4 HL4 R4 RH4
      have z7 : w'.cell? ⟨w1.heap.size, 6, none⟩ = some (.slice p i c) := RH5.out.cell 6
      have z8 := RH5.out.frozen 6
      have RH6 := Lib.hid (show RowAt (w'.setCell ⟨w1.heap.size, 6, none⟩ (.slice p' (i + 1) c')) w1.heap.size #[.string pa, .int .u64 (ht : Int), .string ro, .string tx, .string pr, .string va, .slice p' (i + 1) c', .string vo, .bool (bd), .int .u64 (rd : Int), .slice none 0 0] 26 from RH5.out.set 6 (.slice p' (i + 1) c') rfl)
      have O6 := Lib.hid (show OwnE encS 9 (w'.setCell ⟨w1.heap.size, 6, none⟩ (.slice p' (i + 1) c')) (w1.heap.size + 1) (.slice p' (i + 1) c') (vs.take (i + 1)) from by rw [← HTK.out]; exact O5.out.setLow ⟨w1.heap.size, 6, none⟩ _ (Nat.lt_succ_self _))
      have HB6 := Lib.hid (HB5.out.setCell (p := ⟨w1.heap.size, 6, none⟩) (Nat.le_refl _) (.slice p' (i + 1) c'))
      clear RH5 O5 HB5
      go_wp2
      exact ⟨⟨i + 1, p', c', by omega, by simp, RH6, O6, HB6⟩, by simp [intOf]; omega⟩
    · obtain rfl : i = vs.length := by omega
      have OV := Lib.hid (show OwnE encS 9 wr (w1.heap.size + 1) (.slice p vs.length c) vs from by have := O.out; rwa [List.take_length] at this)
      clear O HTL RW6 HC6 hi
      have z10 := (HB1.out.cell (block_lt_of_cell HC10.out)).trans HC10.out
      go_upto_region 11 with (fail)
      clear z10
      have G0 : Hid (OwnE encG 68 wr wr.heap.size (.slice none 0 0) ((ss.map fromS1).take 0)) := Lib.hid (OwnE.nil encG _ _ _)
      have K0 := Lib.hid (KB.refl wr w1.heap.size)
      have HWS : Hid (w1.heap.size < wr.heap.size) := Lib.hid RH.out.lt
      generalize wr = W5 at *
      go_loopw [81] (fun s81 wr => ∃ (i : Nat) (q : Option Addr) (d : Nat), i ≤ ss.length ∧ s81 = .int .i64 i ∧ Hid (RowAt wr w1.heap.size #[.string pa, .int .u64 (ht : Int), .string ro, .string tx, .string pr, .string va, .slice p vs.length c, .string vo, .bool (bd), .int .u64 (rd : Int), .slice q i d] 26) ∧ Hid (OwnE encG 68 wr W5.heap.size (.slice q i d) ((ss.map fromS1).take i)) ∧ Hid (Below w1.heap.size w1 wr) ∧ Hid (KB W5 w1.heap.size wr)) (fun s _ => ss.length - (intOf s).toNat)
      case atStart => exact ⟨0, none, 0, Nat.zero_le _, rfl, RH, G0, HB1, K0⟩
      case round =>
        clear RH G0 K0 HB1
        obtain ⟨i, q, d, hi, rfl, rh, hg, hb, hk⟩ := hrel
        have RH := Lib.hid rh.out
        have G := Lib.hid hg.out
        have HB1 := Lib.hid hb.out
        have HK := Lib.hid hk.out
        clear rh hg hb hk
        have HTL : Hid (((ss.map fromS1).take i).length = i) := Lib.hid (by simp; omega)
        by_cases hlt : i < ss.length
        · obtain ⟨s1, hs1⟩ : ∃ s, ss[i]? = some s := ⟨_, List.getElem?_eq_getElem hlt⟩
          have hz65 : s1.size = 65 := HO.out.1 s1 (List.mem_of_getElem? hs1)
          have HTK : Hid ((ss.map fromS1).take i ++ [(fromS s1).1] = (ss.map fromS1).take (i + 1)) := Lib.hid (by rw [List.take_add_one, List.getElem?_map, hs1, fromS1_eq]; rfl)
          have hrow := RowT.below RW10.out HB1.out (Nat.le_refl _)
          obtain ⟨a10, _, e0, -⟩ := RowT.at2 hrow (i := i) (t := bF s1) (by rw [List.getElem?_map, hs1]; rfl)
          subst e0
          obtain ⟨⟨q3, qn, qc⟩, d0, d1, d2, -⟩ := fd_cells hrow (i := i) (t := bF s1) (by rw [List.getElem?_map, hs1]; rfl)
          clear hrow hs1
          rw [mkS_bl] at d1
          replace d0 : wr.cell? (a10.add (i * 3)) = some (.int .u64 0) := d0
          replace d2 : wr.cell? ⟨(a10.add (i * 3)).block, (a10.add (i * 3)).off + 2, none⟩ = some (.slice q3 qn qc) := d2
          have KF := Lib.hid (fun W => rfromS_any s1 W hz65)
          clear hz65
          go_upto_region 13 with (fail)
          have HBA := bel1 wr (.cells #[.int .u64 0, .string s1, .slice q3 qn qc] 64)
          have RF := Lib.hid (RowAt.new wr #[.int .u64 0, .string s1, .slice q3 qn qc] 64)
          replace RH := Lib.hid (RH.out.belowS HBA)
          replace G := Lib.hid (OwnE.below encG G.out HBA (Nat.le_refl _))
          replace HK := Lib.hid (HK.out.below HBA HK.out.1)
          replace HB1 := Lib.hid (HB1.out.alloc HB1.out.size (.cells #[.int .u64 0, .string s1, .slice q3 qn qc] 64))
          clear HBA
          generalize hW3 : wr.alloc (.cells #[.int .u64 0, .string s1, .slice q3 qn qc] 64) = W3 at *
          clear hW3 d0 d1 d2
          obtain ⟨y0, y1, y2, -, -, -⟩ := RF.out.c3
          generalize fromS s1 = g at *
          obtain ⟨⟨⟨r0, r1, r2, r3⟩, ⟨s0', s1', s2', s3'⟩, v⟩, cd⟩ := g
          dsimp only [sgV, sgc] at KF
          go_upto_region 14 with (go_at_call 28; ((with_reducible refine (KF.out _).mono ?_)); rintro e4 w4 ⟨rfl, hb⟩; replace RH := Lib.hid (RH.out.belowS hb); replace G := Lib.hid (OwnE.below encG G.out hb (Nat.le_refl _)); replace HK := Lib.hid (HK.out.below hb HK.out.1); replace HB1 := Lib.hid (HB1.out.trans (hb.mono HB1.out.size)); clear hb y0 y1 y2)
          have HBA := bel1 w4 (.cells #[.int .u64 r0, .int .u64 r1, .int .u64 r2, .int .u64 r3, .int .u64 s0', .int .u64 s1', .int .u64 s2', .int .u64 s3', .int .i64 v] 68)
          have RX := Lib.hid (RowAt.new w4 #[.int .u64 r0, .int .u64 r1, .int .u64 r2, .int .u64 r3, .int .u64 s0', .int .u64 s1', .int .u64 s2', .int .u64 s3', .int .i64 v] 68)
          replace RH := Lib.hid (RH.out.belowS HBA)
          replace G := Lib.hid (OwnE.below encG G.out HBA (Nat.le_refl _))
          replace HK := Lib.hid (HK.out.below HBA HK.out.1)
          replace HB1 := Lib.hid (HB1.out.alloc HB1.out.size (.cells #[.int .u64 r0, .int .u64 r1, .int .u64 r2, .int .u64 r3, .int .u64 s0', .int .u64 s1', .int .u64 s2', .int .u64 s3', .int .i64 v] 68))
          clear HBA KF RF
          generalize hW6 : w4.alloc (.cells #[.int .u64 r0, .int .u64 r1, .int .u64 r2, .int .u64 r3, .int .u64 s0', .int .u64 s1', .int .u64 s2', .int .u64 s3', .int .i64 v] 68) = W6 at *
          clear hW6
          obtain ⟨x0, x1, x2, x3, x4, x5, x6, x7, x8⟩ := RX.out.c9
          have z10 : W6.cell? ⟨w1.heap.size, 10, none⟩ = some (.slice q i d) := RH.out.cell 10
          have R4 := Lib.hid (RowAt.new W6 #[.int .u64 r0, .int .u64 r1, .int .u64 r2, .int .u64 r3, .int .u64 s0', .int .u64 s1', .int .u64 s2', .int .u64 s3', .int .i64 v] 68)
          have HBA := bel1 W6 (.cells #[.int .u64 r0, .int .u64 r1, .int .u64 r2, .int .u64 r3, .int .u64 s0', .int .u64 s1', .int .u64 s2', .int .u64 s3', .int .i64 v] 68)
          have RH4 := Lib.hid (RH.out.belowS HBA)
          have G4 := Lib.hid (OwnE.below encG G.out HBA (Nat.le_refl _))
          have HK4 := Lib.hid (HK.out.below HBA HK.out.1)
          have HB4 := Lib.hid (HB1.out.alloc HB1.out.size (.cells #[.int .u64 r0, .int .u64 r1, .int .u64 r2, .int .u64 r3, .int .u64 s0', .int .u64 s1', .int .u64 s2', .int .u64 s3', .int .i64 v] 68))
          have HL4 := Lib.hid (RowE.lit encG R4.out ((r0, r1, r2, r3), (s0', s1', s2', s3'), v) rfl)
          have HSZ : Hid (W5.heap.size ≤ (W6.alloc (.cells #[.int .u64 r0, .int .u64 r1, .int .u64 r2, .int .u64 r3, .int .u64 s0', .int .u64 s1', .int .u64 s2', .int .u64 s3', .int .i64 v] 68)).heap.size) := Lib.hid HK4.out.1
          clear RX RH G HK HB1 HBA
          go_upto_region 15 with (at_builtin; refine wpList_append_rowE encG Try.underlying24 info_sg rfl rfl _ _ rfl W5.heap.size _ ((ss.map fromS1).take i) rfl G4.out _ [((r0, r1, r2, r3), (s0', s1', s2', s3'), v)] rfl HL4.out (by unfold maxLen; rw [HTL.out]; simp; omega) (by rw [HTL.out]; simp; omega) HSZ.out ?_)
          intro v' w' ho hbb hz _
          obtain ⟨p', c', e, _, _⟩ := RowE.shape encG (OwnE.row encG ho)
          rw [List.length_append, HTL.out, List.length_singleton] at e
          subst e
          have RH5 := Lib.hid (RH4.out.below (hbb _ (Below.refl _ _)) HWS.out)
          have HB5 := Lib.hid (HB4.out.trans ((hbb _ (Below.refl _ _)).mono (Nat.le_of_lt HWS.out)))
          have HK5 := Lib.hid (HK4.out.below (hbb _ (Below.refl _ _)) (Nat.le_refl _))
          have G5 := Lib.hid ho
          clear ho hbb hz G4 HB4 HL4 R4 RH4 HK4 z10 x0 x1 x2 x3 x4 x5 x6 x7 x8
          have z7 : w'.cell? ⟨w1.heap.size, 10, none⟩ = some (.slice q i d) := RH5.out.cell 10
          have z8 := RH5.out.frozen 10
          have RH6 := Lib.hid (show RowAt (w'.setCell ⟨w1.heap.size, 10, none⟩ (.slice p' (i + 1) c')) w1.heap.size #[.string pa, .int .u64 (ht : Int), .string ro, .string tx, .string pr, .string va, .slice p vs.length c, .string vo, .bool (bd), .int .u64 (rd : Int), .slice p' (i + 1) c'] 26 from RH5.out.set 10 (.slice p' (i + 1) c') rfl)
          have G6 := Lib.hid (show OwnE encG 68 (w'.setCell ⟨w1.heap.size, 10, none⟩ (.slice p' (i + 1) c')) W5.heap.size (.slice p' (i + 1) c') ((ss.map fromS1).take (i + 1)) from by rw [← HTK.out]; exact G5.out.setLow ⟨w1.heap.size, 10, none⟩ _ HWS.out)
          have HB6 := Lib.hid (HB5.out.setCell (p := ⟨w1.heap.size, 10, none⟩) (Nat.le_refl _) (.slice p' (i + 1) c'))
          have HK6 := Lib.hid (HK5.out.set 10 (.slice p' (i + 1) c'))
          clear RH5 G5 HB5 HK5
          go_wp2
          exact ⟨⟨i + 1, p', c', by omega, by simp, RH6, G6, HB6, HK6⟩, by simp [intOf]; omega⟩
        · obtain rfl : i = ss.length := by omega
          have OG := Lib.hid (show OwnE encG 68 wr W5.heap.size (.slice q ss.length d) (ss.map fromS1) from by have := G.out; rwa [List.take_of_length_le (by simp)] at this)
          have OV2 := Lib.hid (OV.out.keepBut HK.out (Nat.lt_succ_self _))
          have HAT : Hid (HdAt wr (refHd ⟨pa, ht, ro, tx, pr, va, vs, vo, ad, rd, ss⟩) (.slice p vs.length c) (.slice q ss.length d)) := Lib.hid ⟨OwnE.row encS OV2.out, OwnE.row encG OG.out, fun g hg => by
            obtain ⟨t, _, rfl⟩ := List.mem_map.1 hg
            exact fromS1_ok t⟩
          clear G OV HK HTL RW10 HC10 hi hlt
          have KR := rhRight_any (refHd ⟨pa, ht, ro, tx, pr, va, vs, vo, ad, rd, ss⟩) (.slice p vs.length c) (.slice q ss.length d) wr HAT.out (by show vs.length ≤ 1000000; omega)
          have KC := fun (hk : HdOk (refHd ⟨pa, ht, ro, tx, pr, va, vs, vo, ad, rd, ss⟩)) W (hb : Below wr.heap.size wr W) => record_ref (refHd ⟨pa, ht, ro, tx, pr, va, vs, vo, ad, rd, ss⟩) (.slice p vs.length c) (.slice q ss.length d) W (HAT.out.below hb) (refHd_num HO.out) hk
          have HYE : Hid (hdL (refHd ⟨pa, ht, ro, tx, pr, va, vs, vo, ad, rd, ss⟩) = true → (recL (refHd ⟨pa, ht, ro, tx, pr, va, vs, vo, ad, rd, ss⟩)).1 = bl s → seenH ⟨pa, ht, ro, tx, pr, va, vs, vo, ad, rd, ss⟩ = (refHd ⟨pa, ht, ro, tx, pr, va, vs, vo, ad, rd, ss⟩, 0)) := Lib.hid (fun h1 h2 => ref_yes HXX.out HO.out h1 h2)
          have HNN : Hid ((hdL (refHd ⟨pa, ht, ro, tx, pr, va, vs, vo, ad, rd, ss⟩) = true → (recL (refHd ⟨pa, ht, ro, tx, pr, va, vs, vo, ad, rd, ss⟩)).1 ≠ bl s) → seenH ⟨pa, ht, ro, tx, pr, va, vs, vo, ad, rd, ss⟩ = (zHd, 4)) := Lib.hid (fun h => ref_no HXX.out HO.out h)
          have hbb := HBB.out
          have HBD := Lib.hid hbb
          clear HAT HO HXX
          generalize recL (refHd ⟨pa, ht, ro, tx, pr, va, vs, vo, ad, rd, ss⟩) = rc at *
          obtain ⟨rb, rcode⟩ := rc
          simp only at HYE HNN KC
          obtain ⟨x0, x1, x2, x3, x4, x5, x6, x7, x8, x9, x10⟩ := RH.out.c11
          cases e : hdL (refHd ⟨pa, ht, ro, tx, pr, va, vs, vo, ad, rd, ss⟩) with
          | false =>
              rw [e] at KR
              have HNO := Lib.hid (HNN.out (fun h => by rw [e] at h; cases h))
              dsimp only [hdV, hdc, refHd] at KR
              rw [hbb] at KR
              have KR := Lib.hid KR
              clear hbb e HYE HNN HBD KC
              go_upto_region 17 with (go_at_call 29; ((with_reducible refine (KR.out).mono ?_)); rintro e4 W7 ⟨rfl, hb⟩; replace HB1 := Lib.hid (HB1.out.trans (hb.mono HB1.out.size)); clear hb x0 x1 x2 x3 x4 x5 x6 x7 x8 x9 x10)
              clear KR RH OV2 OG
              replace R0 := Lib.hid (R0.out.below HB1.out HL.out)
              have HBZ := Lib.hid (HB.out.trans (HB1.out.mono HB.out.size))
              obtain ⟨x0, x1, x2, x3, x4, x5, x6, x7, x8, x9, x10⟩ := R0.out.c11; obtain ⟨f0, f1, f2, f3, f4, f5, f6, f7, f8, f9, f10⟩ := R0.out.f11
              go_wp2
              have RZ := Lib.hid (show RowAt (((((((((((W7.setCell ⟨w.heap.size, 0, none⟩ (.string ⟨#[]⟩)).setCell ⟨w.heap.size, 1, none⟩ (.int .u64 0)).setCell ⟨w.heap.size, 2, none⟩ (.string ⟨#[]⟩)).setCell ⟨w.heap.size, 3, none⟩ (.string ⟨#[]⟩)).setCell ⟨w.heap.size, 4, none⟩ (.string ⟨#[]⟩)).setCell ⟨w.heap.size, 5, none⟩ (.string ⟨#[]⟩)).setCell ⟨w.heap.size, 6, none⟩ (.slice none 0 0)).setCell ⟨w.heap.size, 7, none⟩ (.string ⟨#[]⟩)).setCell ⟨w.heap.size, 8, none⟩ (.bool false)).setCell ⟨w.heap.size, 9, none⟩ (.int .u64 0)).setCell ⟨w.heap.size, 10, none⟩ (.slice none 0 0)) w.heap.size #[.string ⟨#[]⟩, .int .u64 0, .string ⟨#[]⟩, .string ⟨#[]⟩, .string ⟨#[]⟩, .string ⟨#[]⟩, .slice none 0 0, .string ⟨#[]⟩, .bool false, .int .u64 0, .slice none 0 0] 26 from R0.out.set11 (.string ⟨#[]⟩) (.int .u64 0) (.string ⟨#[]⟩) (.string ⟨#[]⟩) (.string ⟨#[]⟩) (.string ⟨#[]⟩) (.slice none 0 0) (.string ⟨#[]⟩) (.bool false) (.int .u64 0) (.slice none 0 0))
              have HZ := Lib.hid (show Below w.heap.size w (((((((((((W7.setCell ⟨w.heap.size, 0, none⟩ (.string ⟨#[]⟩)).setCell ⟨w.heap.size, 1, none⟩ (.int .u64 0)).setCell ⟨w.heap.size, 2, none⟩ (.string ⟨#[]⟩)).setCell ⟨w.heap.size, 3, none⟩ (.string ⟨#[]⟩)).setCell ⟨w.heap.size, 4, none⟩ (.string ⟨#[]⟩)).setCell ⟨w.heap.size, 5, none⟩ (.string ⟨#[]⟩)).setCell ⟨w.heap.size, 6, none⟩ (.slice none 0 0)).setCell ⟨w.heap.size, 7, none⟩ (.string ⟨#[]⟩)).setCell ⟨w.heap.size, 8, none⟩ (.bool false)).setCell ⟨w.heap.size, 9, none⟩ (.int .u64 0)).setCell ⟨w.heap.size, 10, none⟩ (.slice none 0 0)) from below_set11 (o := 0) HBZ.out (Nat.le_refl _) (.string ⟨#[]⟩) (.int .u64 0) (.string ⟨#[]⟩) (.string ⟨#[]⟩) (.string ⟨#[]⟩) (.string ⟨#[]⟩) (.slice none 0 0) (.string ⟨#[]⟩) (.bool false) (.int .u64 0) (.slice none 0 0))
              generalize (((((((((((W7.setCell ⟨w.heap.size, 0, none⟩ (.string ⟨#[]⟩)).setCell ⟨w.heap.size, 1, none⟩ (.int .u64 0)).setCell ⟨w.heap.size, 2, none⟩ (.string ⟨#[]⟩)).setCell ⟨w.heap.size, 3, none⟩ (.string ⟨#[]⟩)).setCell ⟨w.heap.size, 4, none⟩ (.string ⟨#[]⟩)).setCell ⟨w.heap.size, 5, none⟩ (.string ⟨#[]⟩)).setCell ⟨w.heap.size, 6, none⟩ (.slice none 0 0)).setCell ⟨w.heap.size, 7, none⟩ (.string ⟨#[]⟩)).setCell ⟨w.heap.size, 8, none⟩ (.bool false)).setCell ⟨w.heap.size, 9, none⟩ (.int .u64 0)).setCell ⟨w.heap.size, 10, none⟩ (.slice none 0 0)) = WZ at *
              obtain ⟨k0, k1, k2, k3, k4, k5, k6, k7, k8, k9, k10⟩ := RZ.out.c11
              clear x0 f0 x1 f1 x2 f2 x3 f3 x4 f4 x5 f5 x6 f6 x7 f7 x8 f8 x9 f9 x10 f10 R0 RZ
              (try simp only [Exit.inBlock, Exit.then])
              refine bodyPost_ret (v := .tuple #[.agg #[.string ⟨#[]⟩, .int .u64 0, .string ⟨#[]⟩, .string ⟨#[]⟩, .string ⟨#[]⟩, .string ⟨#[]⟩, .slice none 0 0, .string ⟨#[]⟩, .bool false, .int .u64 0, .slice none 0 0], .int .i64 4]) (by simp [results, Try.results8, go_sem, k0, k1, k2, k3, k4, k5, k6, k7, k8, k9, k10]) rfl ?_
              have hr4 : r = (zHd, 4) := by rw [← HR.out]; exact HNO.out
              rw [hr4]
              exact ⟨.slice none 0 0, .slice none 0 0, rfl, zHd_at _, HZ.out⟩
          | true =>
              rw [e] at KR
              replace KC := fun W hb => KC (hdOk_of e) W hb
              dsimp only [hdV, hdc, refHd] at KR KC
              rw [hbb] at KR KC
              have KR := Lib.hid KR
              have KC := Lib.hid KC
              by_cases h2 : rb = bl s
              · have HYY := Lib.hid (HYE.out e h2)
                subst h2
                rw [mkS_bl] at KC
                clear hbb e HYE HNN
                go_upto_region 18 with (first
                  | (go_at_call 29; ((with_reducible refine (KR.out).mono ?_)); rintro e4 W6 ⟨rfl, hb⟩; replace HB1 := Lib.hid (HB1.out.trans (hb.mono HB1.out.size)); replace RH := Lib.hid (RH.out.belowS hb); replace OV2 := Lib.hid (OwnE.below encS OV2.out hb (Nat.le_refl _)); replace OG := Lib.hid (OwnE.below encG OG.out hb (Nat.le_refl _)); replace KC := Lib.hid (KC.out W6 hb); clear hb x0 x1 x2 x3 x4 x5 x6 x7 x8 x9 x10; obtain ⟨x0, x1, x2, x3, x4, x5, x6, x7, x8, x9, x10⟩ := RH.out.c11)
                  | (go_at_call 30; ((with_reducible refine (KC.out).mono ?_)); rintro e4 W7 ⟨rfl, hb⟩; replace HB1 := Lib.hid (HB1.out.trans (hb.mono HB1.out.size)); replace RH := Lib.hid (RH.out.belowS hb); replace OV2 := Lib.hid (OwnE.below encS OV2.out hb (Nat.le_refl _)); replace OG := Lib.hid (OwnE.below encG OG.out hb (Nat.le_refl _)); clear hb x0 x1 x2 x3 x4 x5 x6 x7 x8 x9 x10))
                clear KR KC
                replace R0 := Lib.hid (R0.out.below HB1.out HL.out)
                have HBZ := Lib.hid (HB.out.trans (HB1.out.mono HB.out.size))
                obtain ⟨x0, x1, x2, x3, x4, x5, x6, x7, x8, x9, x10⟩ := R0.out.c11; obtain ⟨f0, f1, f2, f3, f4, f5, f6, f7, f8, f9, f10⟩ := R0.out.f11
                obtain ⟨y0, y1, y2, y3, y4, y5, y6, y7, y8, y9, y10⟩ := RH.out.c11
                go_wp2
                have RZ := Lib.hid (show RowAt (((((((((((W7.setCell ⟨w.heap.size, 0, none⟩ (.string pa)).setCell ⟨w.heap.size, 1, none⟩ (.int .u64 (ht : Int))).setCell ⟨w.heap.size, 2, none⟩ (.string ro)).setCell ⟨w.heap.size, 3, none⟩ (.string tx)).setCell ⟨w.heap.size, 4, none⟩ (.string pr)).setCell ⟨w.heap.size, 5, none⟩ (.string va)).setCell ⟨w.heap.size, 6, none⟩ (.slice p vs.length c)).setCell ⟨w.heap.size, 7, none⟩ (.string vo)).setCell ⟨w.heap.size, 8, none⟩ (.bool (bd))).setCell ⟨w.heap.size, 9, none⟩ (.int .u64 (rd : Int))).setCell ⟨w.heap.size, 10, none⟩ (.slice q ss.length d)) w.heap.size #[.string pa, .int .u64 (ht : Int), .string ro, .string tx, .string pr, .string va, .slice p vs.length c, .string vo, .bool (bd), .int .u64 (rd : Int), .slice q ss.length d] 26 from R0.out.set11 (.string pa) (.int .u64 (ht : Int)) (.string ro) (.string tx) (.string pr) (.string va) (.slice p vs.length c) (.string vo) (.bool (bd)) (.int .u64 (rd : Int)) (.slice q ss.length d))
                have HZ := Lib.hid (show Below w.heap.size w (((((((((((W7.setCell ⟨w.heap.size, 0, none⟩ (.string pa)).setCell ⟨w.heap.size, 1, none⟩ (.int .u64 (ht : Int))).setCell ⟨w.heap.size, 2, none⟩ (.string ro)).setCell ⟨w.heap.size, 3, none⟩ (.string tx)).setCell ⟨w.heap.size, 4, none⟩ (.string pr)).setCell ⟨w.heap.size, 5, none⟩ (.string va)).setCell ⟨w.heap.size, 6, none⟩ (.slice p vs.length c)).setCell ⟨w.heap.size, 7, none⟩ (.string vo)).setCell ⟨w.heap.size, 8, none⟩ (.bool (bd))).setCell ⟨w.heap.size, 9, none⟩ (.int .u64 (rd : Int))).setCell ⟨w.heap.size, 10, none⟩ (.slice q ss.length d)) from below_set11 (o := 0) HBZ.out (Nat.le_refl _) (.string pa) (.int .u64 (ht : Int)) (.string ro) (.string tx) (.string pr) (.string va) (.slice p vs.length c) (.string vo) (.bool (bd)) (.int .u64 (rd : Int)) (.slice q ss.length d))
                have hlv := HL.out
                have hlw := HWS.out
                have OVZ := Lib.hid (show OwnE encS 9 (((((((((((W7.setCell ⟨w.heap.size, 0, none⟩ (.string pa)).setCell ⟨w.heap.size, 1, none⟩ (.int .u64 (ht : Int))).setCell ⟨w.heap.size, 2, none⟩ (.string ro)).setCell ⟨w.heap.size, 3, none⟩ (.string tx)).setCell ⟨w.heap.size, 4, none⟩ (.string pr)).setCell ⟨w.heap.size, 5, none⟩ (.string va)).setCell ⟨w.heap.size, 6, none⟩ (.slice p vs.length c)).setCell ⟨w.heap.size, 7, none⟩ (.string vo)).setCell ⟨w.heap.size, 8, none⟩ (.bool (bd))).setCell ⟨w.heap.size, 9, none⟩ (.int .u64 (rd : Int))).setCell ⟨w.heap.size, 10, none⟩ (.slice q ss.length d)) (w1.heap.size + 1) (.slice p vs.length c) vs from OV2.out.setLow11 (by omega))
                have OGZ := Lib.hid (show OwnE encG 68 (((((((((((W7.setCell ⟨w.heap.size, 0, none⟩ (.string pa)).setCell ⟨w.heap.size, 1, none⟩ (.int .u64 (ht : Int))).setCell ⟨w.heap.size, 2, none⟩ (.string ro)).setCell ⟨w.heap.size, 3, none⟩ (.string tx)).setCell ⟨w.heap.size, 4, none⟩ (.string pr)).setCell ⟨w.heap.size, 5, none⟩ (.string va)).setCell ⟨w.heap.size, 6, none⟩ (.slice p vs.length c)).setCell ⟨w.heap.size, 7, none⟩ (.string vo)).setCell ⟨w.heap.size, 8, none⟩ (.bool (bd))).setCell ⟨w.heap.size, 9, none⟩ (.int .u64 (rd : Int))).setCell ⟨w.heap.size, 10, none⟩ (.slice q ss.length d)) W5.heap.size (.slice q ss.length d) (ss.map fromS1) from OG.out.setLow11 (by omega))
                generalize (((((((((((W7.setCell ⟨w.heap.size, 0, none⟩ (.string pa)).setCell ⟨w.heap.size, 1, none⟩ (.int .u64 (ht : Int))).setCell ⟨w.heap.size, 2, none⟩ (.string ro)).setCell ⟨w.heap.size, 3, none⟩ (.string tx)).setCell ⟨w.heap.size, 4, none⟩ (.string pr)).setCell ⟨w.heap.size, 5, none⟩ (.string va)).setCell ⟨w.heap.size, 6, none⟩ (.slice p vs.length c)).setCell ⟨w.heap.size, 7, none⟩ (.string vo)).setCell ⟨w.heap.size, 8, none⟩ (.bool (bd))).setCell ⟨w.heap.size, 9, none⟩ (.int .u64 (rd : Int))).setCell ⟨w.heap.size, 10, none⟩ (.slice q ss.length d)) = WZ at *
                obtain ⟨k0, k1, k2, k3, k4, k5, k6, k7, k8, k9, k10⟩ := RZ.out.c11
                clear x0 f0 x1 f1 x2 f2 x3 f3 x4 f4 x5 f5 x6 f6 x7 f7 x8 f8 x9 f9 x10 f10 y0 y1 y2 y3 y4 y5 y6 y7 y8 y9 y10 R0 RZ OV2 OG RH
                (try simp only [Exit.inBlock, Exit.then])
                refine bodyPost_ret (v := .tuple #[.agg #[.string pa, .int .u64 (ht : Int), .string ro, .string tx, .string pr, .string va, .slice p vs.length c, .string vo, .bool (bd), .int .u64 (rd : Int), .slice q ss.length d], .int .i64 0]) (by simp [results, Try.results8, go_sem, k0, k1, k2, k3, k4, k5, k6, k7, k8, k9, k10]) rfl ?_
                have hr0 : r = (refHd ⟨pa, ht, ro, tx, pr, va, vs, vo, ad, rd, ss⟩, 0) := by rw [← HR.out]; exact HYY.out
                rw [hr0]
                refine ⟨.slice p vs.length c, .slice q ss.length d, ?_, ⟨OwnE.row encS OVZ.out, OwnE.row encG OGZ.out, fun g hg => ?_⟩, HZ.out⟩
                · dsimp only [hdc, refHd]
                  rw [HBD.out]
                · obtain ⟨t, _, rfl⟩ := List.mem_map.1 hg
                  exact fromS1_ok t
              · have HNO := Lib.hid (HNN.out (fun _ => h2))
                have q2 : ((mkS rb).toList == s.toList) = false := beq_eq_false_iff_ne.2 (fun h => h2 (by rw [toList_bl, toList_bl, bl_mk] at h; exact h))
                clear hbb e HYE HNN HBD h2
                go_upto_region 17 with (first
                  | (go_at_call 29; ((with_reducible refine (KR.out).mono ?_)); rintro e4 W6 ⟨rfl, hb⟩; replace HB1 := Lib.hid (HB1.out.trans (hb.mono HB1.out.size)); replace RH := Lib.hid (RH.out.belowS hb); replace KC := Lib.hid (KC.out W6 hb); clear hb x0 x1 x2 x3 x4 x5 x6 x7 x8 x9 x10; obtain ⟨x0, x1, x2, x3, x4, x5, x6, x7, x8, x9, x10⟩ := RH.out.c11)
                  | (go_at_call 30; ((with_reducible refine (KC.out).mono ?_)); rintro e4 W7 ⟨rfl, hb⟩; replace HB1 := Lib.hid (HB1.out.trans (hb.mono HB1.out.size)); clear hb x0 x1 x2 x3 x4 x5 x6 x7 x8 x9 x10))
                clear KR KC RH OV2 OG
                replace R0 := Lib.hid (R0.out.below HB1.out HL.out)
                have HBZ := Lib.hid (HB.out.trans (HB1.out.mono HB.out.size))
                obtain ⟨x0, x1, x2, x3, x4, x5, x6, x7, x8, x9, x10⟩ := R0.out.c11; obtain ⟨f0, f1, f2, f3, f4, f5, f6, f7, f8, f9, f10⟩ := R0.out.f11
                go_wp2
                have RZ := Lib.hid (show RowAt (((((((((((W7.setCell ⟨w.heap.size, 0, none⟩ (.string ⟨#[]⟩)).setCell ⟨w.heap.size, 1, none⟩ (.int .u64 0)).setCell ⟨w.heap.size, 2, none⟩ (.string ⟨#[]⟩)).setCell ⟨w.heap.size, 3, none⟩ (.string ⟨#[]⟩)).setCell ⟨w.heap.size, 4, none⟩ (.string ⟨#[]⟩)).setCell ⟨w.heap.size, 5, none⟩ (.string ⟨#[]⟩)).setCell ⟨w.heap.size, 6, none⟩ (.slice none 0 0)).setCell ⟨w.heap.size, 7, none⟩ (.string ⟨#[]⟩)).setCell ⟨w.heap.size, 8, none⟩ (.bool false)).setCell ⟨w.heap.size, 9, none⟩ (.int .u64 0)).setCell ⟨w.heap.size, 10, none⟩ (.slice none 0 0)) w.heap.size #[.string ⟨#[]⟩, .int .u64 0, .string ⟨#[]⟩, .string ⟨#[]⟩, .string ⟨#[]⟩, .string ⟨#[]⟩, .slice none 0 0, .string ⟨#[]⟩, .bool false, .int .u64 0, .slice none 0 0] 26 from R0.out.set11 (.string ⟨#[]⟩) (.int .u64 0) (.string ⟨#[]⟩) (.string ⟨#[]⟩) (.string ⟨#[]⟩) (.string ⟨#[]⟩) (.slice none 0 0) (.string ⟨#[]⟩) (.bool false) (.int .u64 0) (.slice none 0 0))
                have HZ := Lib.hid (show Below w.heap.size w (((((((((((W7.setCell ⟨w.heap.size, 0, none⟩ (.string ⟨#[]⟩)).setCell ⟨w.heap.size, 1, none⟩ (.int .u64 0)).setCell ⟨w.heap.size, 2, none⟩ (.string ⟨#[]⟩)).setCell ⟨w.heap.size, 3, none⟩ (.string ⟨#[]⟩)).setCell ⟨w.heap.size, 4, none⟩ (.string ⟨#[]⟩)).setCell ⟨w.heap.size, 5, none⟩ (.string ⟨#[]⟩)).setCell ⟨w.heap.size, 6, none⟩ (.slice none 0 0)).setCell ⟨w.heap.size, 7, none⟩ (.string ⟨#[]⟩)).setCell ⟨w.heap.size, 8, none⟩ (.bool false)).setCell ⟨w.heap.size, 9, none⟩ (.int .u64 0)).setCell ⟨w.heap.size, 10, none⟩ (.slice none 0 0)) from below_set11 (o := 0) HBZ.out (Nat.le_refl _) (.string ⟨#[]⟩) (.int .u64 0) (.string ⟨#[]⟩) (.string ⟨#[]⟩) (.string ⟨#[]⟩) (.string ⟨#[]⟩) (.slice none 0 0) (.string ⟨#[]⟩) (.bool false) (.int .u64 0) (.slice none 0 0))
                generalize (((((((((((W7.setCell ⟨w.heap.size, 0, none⟩ (.string ⟨#[]⟩)).setCell ⟨w.heap.size, 1, none⟩ (.int .u64 0)).setCell ⟨w.heap.size, 2, none⟩ (.string ⟨#[]⟩)).setCell ⟨w.heap.size, 3, none⟩ (.string ⟨#[]⟩)).setCell ⟨w.heap.size, 4, none⟩ (.string ⟨#[]⟩)).setCell ⟨w.heap.size, 5, none⟩ (.string ⟨#[]⟩)).setCell ⟨w.heap.size, 6, none⟩ (.slice none 0 0)).setCell ⟨w.heap.size, 7, none⟩ (.string ⟨#[]⟩)).setCell ⟨w.heap.size, 8, none⟩ (.bool false)).setCell ⟨w.heap.size, 9, none⟩ (.int .u64 0)).setCell ⟨w.heap.size, 10, none⟩ (.slice none 0 0)) = WZ at *
                obtain ⟨k0, k1, k2, k3, k4, k5, k6, k7, k8, k9, k10⟩ := RZ.out.c11
                clear x0 f0 x1 f1 x2 f2 x3 f3 x4 f4 x5 f5 x6 f6 x7 f7 x8 f8 x9 f9 x10 f10 R0 RZ
                (try simp only [Exit.inBlock, Exit.then])
                refine bodyPost_ret (v := .tuple #[.agg #[.string ⟨#[]⟩, .int .u64 0, .string ⟨#[]⟩, .string ⟨#[]⟩, .string ⟨#[]⟩, .string ⟨#[]⟩, .slice none 0 0, .string ⟨#[]⟩, .bool false, .int .u64 0, .slice none 0 0], .int .i64 4]) (by simp [results, Try.results8, go_sem, k0, k1, k2, k3, k4, k5, k6, k7, k8, k9, k10]) rfl ?_
                have hr4 : r = (zHd, 4) := by rw [← HR.out]; exact HNO.out
                rw [hr4]
                exact ⟨.slice none 0 0, .slice none 0 0, rfl, zHd_at _, HZ.out⟩
end Go.Proofs.Ytefmlbckbhlgdaa
namespace Go.Proofs.Ytefmlbckbhlgdaa
open Go.RowKit Go.Shelf
set_option maxRecDepth 100000
theorem hread_any (s : ByteArray) (w : World) (hs : s.size ≤ 4100) : Calls Try.prog 7 #[.string s] w (HReadPost (readH (bl s)) w) := by
  by_cases e : (readF hform (bl s)).2 = 0
  · have hr : readF hform (bl s) = ((readF hform (bl s)).1, 0) := by rw [← e]
    obtain ⟨x, hx, ho⟩ := raw_of hr
    have : readH (bl s) = seenH x := by
      unfold readH
      rw [if_pos e, hx, rawL_rawF]
    rw [this]
    exact hread_good s w hs x (by rw [← hx]; exact hr) ho
  · have : readH (bl s) = (zHd, 4) := by
      unfold readH
      rw [if_neg e]
    rw [this]
    exact hread_bad s w hs e
end Go.Proofs.Ytefmlbckbhlgdaa
namespace Go.Proofs.Ytefmlbckbhlgdaa
open Go.RowKit Go.Shelf
set_option maxRecDepth 100000
theorem rhread_any (s : ByteArray) (w : World) (hs : s.size ≤ 4100) : Calls Try.prog 8 #[.string s] w (HReadPost (readH (bl s)) w) := by
  by_cases e : (readF hform (bl s)).2 = 0
  · have hr : readF hform (bl s) = ((readF hform (bl s)).1, 0) := by rw [← e]
    obtain ⟨x, hx, ho⟩ := raw_of hr
    have : readH (bl s) = seenH x := by
      unfold readH
      rw [if_pos e, hx, rawL_rawF]
    rw [this]
    exact rhread_good s w hs x (by rw [← hx]; exact hr) ho
  · have : readH (bl s) = (zHd, 4) := by
      unfold readH
      rw [if_neg e]
    rw [this]
    exact rhread_bad s w hs e

set_option maxHeartbeats 8000000 in
theorem headerReads_walk (w : World) (s : ByteArray) (hsz0 : s.size ≤ maxLen) :
    Calls Try.prog 3 #[.string s] w fun e w' => e = .returned (.bool true) ∧ Below w.heap.size w w' := by
  have KA := Lib.hid (fun W => halive_any W)
  obtain ⟨t, ht⟩ : ∃ t, t = s.extract 0 (min s.size 3000) := ⟨_, rfl⟩
  have htz : t.size ≤ 3000 := by rw [ht, ByteArray.size_extract]; omega
  obtain ⟨m, hm⟩ : ∃ m, m = min s.size 3000 := ⟨_, rfl⟩
  rw [← hm] at ht
  have m4 : min (s.size : Int) 3000 = m := by omega
  have hms : m ≤ s.size := by omega
  have KT := Lib.hid (fun W => hread_any t W (by omega))
  have KR := Lib.hid (fun W => rhread_any t W (by omega))
  have ht2 : s.extract 0 m = t := ht.symm
  have hsz := hsz0
  unfold maxLen at hsz
  clear ht hm htz
  generalize readH (bl t) = rk at *
  obtain ⟨⟨kpa, kht, kro, ktx, kpr, kva, kval, kvo, kad, krd, kse⟩, e2⟩ := rk
  go_enter Try.func3, Try.ntmps3
  go_upto_region 2 with (fail)
  clear m4 hms ht2
  go_upto_region 3 with (go_at_call 7; ((with_reducible refine (KT.out _).mono ?_); rintro e5 w5 ⟨sv1, gv1, rfl, hk1, hb⟩; dsimp only [hdc] at hk1 ⊢; obtain ⟨ps1, cs1, rfl, -, -⟩ := RowE.shape encS hk1.1; obtain ⟨pg1, cg1, rfl, -, -⟩ := RowE.shape encG hk1.2.1; have HB := Lib.hid hb; have HK1 := Lib.hid hk1; clear hb hk1))
  clear KT
  have HBA := bel1 w5 (.cells (hdc ⟨kpa, kht, kro, ktx, kpr, kva, kval, kvo, kad, krd, kse⟩ (.slice ps1 kval.length cs1) (.slice pg1 kse.length cg1)) 26)
  have R1 := Lib.hid (RowAt.new w5 (hdc ⟨kpa, kht, kro, ktx, kpr, kva, kval, kvo, kad, krd, kse⟩ (.slice ps1 kval.length cs1) (.slice pg1 kse.length cg1)) 26)
  replace HK1 := Lib.hid (HK1.out.below HBA)
  replace HB := Lib.hid (HB.out.trans (HBA.mono HB.out.size))
  clear HBA
  generalize w5.alloc (.cells (hdc ⟨kpa, kht, kro, ktx, kpr, kva, kval, kvo, kad, krd, kse⟩ (.slice ps1 kval.length cs1) (.slice pg1 kse.length cg1)) 26) = W1 at *
  generalize w5.heap.size = k1 at *
  go_upto_region 4 with (go_at_call 8; ((with_reducible refine (KR.out _).mono ?_); rintro e6 w6 ⟨sv2, gv2, rfl, hk2, hb⟩; dsimp only [hdc] at hk2 ⊢; obtain ⟨ps2, cs2, rfl, -, -⟩ := RowE.shape encS hk2.1; obtain ⟨pg2, cg2, rfl, -, -⟩ := RowE.shape encG hk2.2.1; replace HB := Lib.hid (HB.out.trans (hb.mono HB.out.size)); replace HK1 := Lib.hid (HK1.out.below hb); replace R1 := Lib.hid (R1.out.belowS hb); have HK2 := Lib.hid hk2; clear hb hk2))
  clear KR
  have HBA := bel1 w6 (.cells (hdc ⟨kpa, kht, kro, ktx, kpr, kva, kval, kvo, kad, krd, kse⟩ (.slice ps2 kval.length cs2) (.slice pg2 kse.length cg2)) 26)
  have R2 := Lib.hid (RowAt.new w6 (hdc ⟨kpa, kht, kro, ktx, kpr, kva, kval, kvo, kad, krd, kse⟩ (.slice ps2 kval.length cs2) (.slice pg2 kse.length cg2)) 26)
  replace HK1 := Lib.hid (HK1.out.below HBA)
  replace HK2 := Lib.hid (HK2.out.below HBA)
  replace R1 := Lib.hid (R1.out.belowS HBA)
  replace HB := Lib.hid (HB.out.trans (HBA.mono HB.out.size))
  clear HBA
  generalize w6.alloc (.cells (hdc ⟨kpa, kht, kro, ktx, kpr, kva, kval, kvo, kad, krd, kse⟩ (.slice ps2 kval.length cs2) (.slice pg2 kse.length cg2)) 26) = W2 at *
  generalize w6.heap.size = k2 at *
  have KL := Lib.hid (fun W (hb : Below W2.heap.size W2 W) => hlike_any ⟨kpa, kht, kro, ktx, kpr, kva, kval, kvo, kad, krd, kse⟩ ⟨kpa, kht, kro, ktx, kpr, kva, kval, kvo, kad, krd, kse⟩ _ _ _ _ W (HK1.out.below hb) (HK2.out.below hb))
  rw [likeH_yes rfl] at KL
  dsimp only [hdc] at KL
  have HW := Lib.hid (Below.refl W2.heap.size W2)
  obtain ⟨y0, y1, y2, y3, y4, y5, y6, y7, y8, y9, y10⟩ := R1.out.c11
  obtain ⟨z0, z1, z2, z3, z4, z5, z6, z7, z8, z9, z10⟩ := R2.out.c11
  go_wp2_with (first
    | (go_at_call 9; ((with_reducible refine (KA.out _).mono ?_); rintro e9 w9 ⟨rfl, hb⟩; replace HB := Lib.hid (HB.out.trans (hb.mono HB.out.size)); replace HW := Lib.hid (HW.out.trans (hb.mono HW.out.size)); replace R1 := Lib.hid (R1.out.belowS hb); replace R2 := Lib.hid (R2.out.belowS hb); clear hb y0 y1 y2 y3 y4 y5 y6 y7 y8 y9 y10 z0 z1 z2 z3 z4 z5 z6 z7 z8 z9 z10; obtain ⟨y0, y1, y2, y3, y4, y5, y6, y7, y8, y9, y10⟩ := R1.out.c11; obtain ⟨z0, z1, z2, z3, z4, z5, z6, z7, z8, z9, z10⟩ := R2.out.c11))
    | (go_at_call 10; ((with_reducible refine (KL.out _ HW.out).mono ?_); rintro e9 w9 ⟨rfl, hb⟩; replace HB := Lib.hid (HB.out.trans (hb.mono HB.out.size)); clear hb)))
  go_ret
  exact ⟨rfl, HB.out⟩
end Go.Proofs.Ytefmlbckbhlgdaa

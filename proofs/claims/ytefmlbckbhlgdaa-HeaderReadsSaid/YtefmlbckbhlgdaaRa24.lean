/- Header: header.Read walked. -/
import Derived.Deep.DeepCutAuto
import Derived.Test.YtefmlbckbhlgdaaRa23
namespace Go.Proofs.Ytefmlbckbhlgdaa
open Go.RowKit Go.Shelf
set_option maxRecDepth 100000
/-- How the reading of a header ends. -/
def HReadPost (r : Hd × Int) (w : World) (e : Ending) (w' : World) : Prop := ∃ sv gv, e = .returned (.tuple #[.agg (hdc r.1 sv gv), .int .i64 r.2]) ∧ HdAt w' r.1 sv gv ∧ Below w.heap.size w w'
theorem zHd_at (w : World) : HdAt w zHd (.slice none 0 0) (.slice none 0 0) := ⟨.inl ⟨rfl, rfl⟩, .inl ⟨rfl, rfl⟩, fun _ h => by cases h⟩

theorem addr_add1 (a : Addr) (n : Nat) : a.add (n + 1) = ⟨a.block, a.off + (n + 1), none⟩ := by
  unfold Addr.add
  split <;> simp_all
theorem info_sg : (Try.prog.info? 68).map (fun i => (i.zero, i.size, i.bytes)) = some (some (.agg #[.int .u64 0, .int .u64 0, .int .u64 0, .int .u64 0, .int .u64 0, .int .u64 0, .int .u64 0, .int .u64 0, .int .i64 0]), 9, 72) := by kernel_rfl
/-- All blocks but one are as they were. -/
def KB (W : World) (k : Nat) (w : World) : Prop := W.heap.size ≤ w.heap.size ∧ ∀ g, g < W.heap.size → g ≠ k → w.heap[g]? = W.heap[g]?
theorem KB.refl (W : World) (k : Nat) : KB W k W := ⟨Nat.le_refl _, fun _ _ _ => rfl⟩
theorem KB.below {W w w' : World} {k B : Nat} (h : KB W k w) (hb : Below B w w') (hB : W.heap.size ≤ B) : KB W k w' := ⟨Nat.le_trans h.1 hb.size, fun g hg hk => by rw [hb.block g (by omega)]; exact h.2 g hg hk⟩
theorem KB.set {W w : World} {k : Nat} (h : KB W k w) (o : Nat) (v : Value) : KB W k (w.setCell ⟨k, o, none⟩ v) := ⟨Nat.le_trans h.1 ((Below.refl 0 w).setCell (p := ⟨k, o, none⟩) (Nat.zero_le _) v).size, fun g hg hk => by rw [heap_setCell_other _ _ _ _ (show g ≠ (⟨k, o, none⟩ : Addr).block from hk)]; exact h.2 g hg hk⟩
theorem OwnE.keepBut {α : Type} {E : Enc α} {T : TypeId} {w w' : World} {base k : Nat} {v : Value} {l : List α} (h : OwnE E T w base v l) (hk : KB w k w') (hb : k < base) : OwnE E T w' base v l := by
  refine ⟨h.1, ?_⟩
  rcases h.2 with h' | ⟨g, cap, cur, hv, hg, hc, r⟩
  · exact .inl h'
  · have hlt : g < w.heap.size := by
      rcases Nat.lt_or_ge g w.heap.size with h | h
      · exact h
      · rw [Array.getElem?_eq_none h] at hc; cases hc
    exact .inr ⟨g, cap, cur, hv, hg, by rw [hk.2 g hlt (by omega)]; exact hc, r⟩
/-- The cells of a field of a row of fields. -/
theorem fd_cells {A : Nat → Prop} {w : World} {ad : Addr} {n c : Nat} {ts : List Fd} (h : RowT encFd A w (.slice (some ad) n c) ts) {i : Nat} {t : Fd} (ht : ts[i]? = some t) : ∃ s, w.cell? (ad.add (i * 3)) = some (.int .u64 (t.val.1 : Int)) ∧ w.cell? ⟨(ad.add (i * 3)).block, (ad.add (i * 3)).off + 1, none⟩ = some (.string (mkS t.val.2)) ∧ w.cell? ⟨(ad.add (i * 3)).block, (ad.add (i * 3)).off + 2, none⟩ = some (slV s) ∧ RowT encFd A w (slV s) t.kids := by
  obtain ⟨ad', s, e, hc, hr⟩ := RowT.at2 h ht
  injection e with e
  subst e
  refine ⟨s, ?_, hc 1 _ rfl, hc 2 _ rfl, hr⟩
  have := hc 0 _ rfl
  rwa [Addr.add_zero'] at this

theorem seen_no {x : Raw} {s : ByteArray} (hs : s ∈ x.ss) (h : sigOk (sgFrom s) = false) : seenH x = (zHd, 4) := by
  unfold seenH
  rw [if_neg]
  rintro ⟨-, h2⟩
  have := (hdOk_of h2).2.2.2.2.2.2.2.2 (sgFrom s) (List.mem_map.2 ⟨s, hs, rfl⟩)
  rw [h] at this
  cases this
set_option maxHeartbeats 2000000 in
theorem hread_bad (s : ByteArray) (w : World) (hs : s.size ≤ 4100) (hb : (readF hform (bl s)).2 ≠ 0) : Calls Try.prog 7 #[.string s] w (HReadPost (zHd, 4) w) := by
  have KF := Lib.hid (fun W => fread_any ⟨#[104, 110, 104, 104, 97, 98, 42, 97, 98, 110, 110, 42, 115]⟩ s W (by decide) hs)
  have hform' : bl (⟨#[104, 110, 104, 104, 97, 98, 42, 97, 98, 110, 110, 42, 115]⟩ : ByteArray) = hform := rfl
  rw [hform'] at KF
  clear hform'
  generalize readF hform (bl s) = r at *
  obtain ⟨l, e0⟩ := r
  simp only at hb
  have q : (e0 != 0) = true := by simpa using hb
  have R0 := Lib.hid (RowAt.new w #[.string ⟨#[]⟩, .int .u64 0, .string ⟨#[]⟩, .string ⟨#[]⟩, .string ⟨#[]⟩, .string ⟨#[]⟩, .slice none 0 0, .string ⟨#[]⟩, .bool false, .int .u64 0, .slice none 0 0] 26)
  have HB := Lib.hid (bel1 w (.cells #[.string ⟨#[]⟩, .int .u64 0, .string ⟨#[]⟩, .string ⟨#[]⟩, .string ⟨#[]⟩, .string ⟨#[]⟩, .slice none 0 0, .string ⟨#[]⟩, .bool false, .int .u64 0, .slice none 0 0] 26))
  go_enter Try.func7, Try.ntmps7
  go_upto_region 3 with (go_at_call 24; refine (KF.out _).mono ?_; rintro e w1 ⟨p, m, c, rfl, -, hbl⟩; simp only; replace R0 := Lib.hid (R0.out.belowS hbl); replace HB := Lib.hid (HB.out.trans (hbl.mono HB.out.size)); clear hbl)
  obtain ⟨x0, x1, x2, x3, x4, x5, x6, x7, x8, x9, x10⟩ := R0.out.c11
  obtain ⟨f0, f1, f2, f3, f4, f5, f6, f7, f8, f9, f10⟩ := R0.out.f11
  go_wp2
  have RZ := Lib.hid (show RowAt (((((((((((w1.setCell ⟨w.heap.size, 0, none⟩ (.string ⟨#[]⟩)).setCell ⟨w.heap.size, 1, none⟩ (.int .u64 0)).setCell ⟨w.heap.size, 2, none⟩ (.string ⟨#[]⟩)).setCell ⟨w.heap.size, 3, none⟩ (.string ⟨#[]⟩)).setCell ⟨w.heap.size, 4, none⟩ (.string ⟨#[]⟩)).setCell ⟨w.heap.size, 5, none⟩ (.string ⟨#[]⟩)).setCell ⟨w.heap.size, 6, none⟩ (.slice none 0 0)).setCell ⟨w.heap.size, 7, none⟩ (.string ⟨#[]⟩)).setCell ⟨w.heap.size, 8, none⟩ (.bool false)).setCell ⟨w.heap.size, 9, none⟩ (.int .u64 0)).setCell ⟨w.heap.size, 10, none⟩ (.slice none 0 0)) w.heap.size #[.string ⟨#[]⟩, .int .u64 0, .string ⟨#[]⟩, .string ⟨#[]⟩, .string ⟨#[]⟩, .string ⟨#[]⟩, .slice none 0 0, .string ⟨#[]⟩, .bool false, .int .u64 0, .slice none 0 0] 26 from R0.out.set11 (.string ⟨#[]⟩) (.int .u64 0) (.string ⟨#[]⟩) (.string ⟨#[]⟩) (.string ⟨#[]⟩) (.string ⟨#[]⟩) (.slice none 0 0) (.string ⟨#[]⟩) (.bool false) (.int .u64 0) (.slice none 0 0))
  have HZ := Lib.hid (show Below w.heap.size w (((((((((((w1.setCell ⟨w.heap.size, 0, none⟩ (.string ⟨#[]⟩)).setCell ⟨w.heap.size, 1, none⟩ (.int .u64 0)).setCell ⟨w.heap.size, 2, none⟩ (.string ⟨#[]⟩)).setCell ⟨w.heap.size, 3, none⟩ (.string ⟨#[]⟩)).setCell ⟨w.heap.size, 4, none⟩ (.string ⟨#[]⟩)).setCell ⟨w.heap.size, 5, none⟩ (.string ⟨#[]⟩)).setCell ⟨w.heap.size, 6, none⟩ (.slice none 0 0)).setCell ⟨w.heap.size, 7, none⟩ (.string ⟨#[]⟩)).setCell ⟨w.heap.size, 8, none⟩ (.bool false)).setCell ⟨w.heap.size, 9, none⟩ (.int .u64 0)).setCell ⟨w.heap.size, 10, none⟩ (.slice none 0 0)) from below_set11 (o := 0) HB.out (Nat.le_refl _) (.string ⟨#[]⟩) (.int .u64 0) (.string ⟨#[]⟩) (.string ⟨#[]⟩) (.string ⟨#[]⟩) (.string ⟨#[]⟩) (.slice none 0 0) (.string ⟨#[]⟩) (.bool false) (.int .u64 0) (.slice none 0 0))
  generalize (((((((((((w1.setCell ⟨w.heap.size, 0, none⟩ (.string ⟨#[]⟩)).setCell ⟨w.heap.size, 1, none⟩ (.int .u64 0)).setCell ⟨w.heap.size, 2, none⟩ (.string ⟨#[]⟩)).setCell ⟨w.heap.size, 3, none⟩ (.string ⟨#[]⟩)).setCell ⟨w.heap.size, 4, none⟩ (.string ⟨#[]⟩)).setCell ⟨w.heap.size, 5, none⟩ (.string ⟨#[]⟩)).setCell ⟨w.heap.size, 6, none⟩ (.slice none 0 0)).setCell ⟨w.heap.size, 7, none⟩ (.string ⟨#[]⟩)).setCell ⟨w.heap.size, 8, none⟩ (.bool false)).setCell ⟨w.heap.size, 9, none⟩ (.int .u64 0)).setCell ⟨w.heap.size, 10, none⟩ (.slice none 0 0)) = WZ at *
  obtain ⟨k0, k1, k2, k3, k4, k5, k6, k7, k8, k9, k10⟩ := RZ.out.c11
  clear x0 f0 x1 f1 x2 f2 x3 f3 x4 f4 x5 f5 x6 f6 x7 f7 x8 f8 x9 f9 x10 f10 R0 HB RZ KF
  refine bodyPost_ret (v := .tuple #[.agg #[.string ⟨#[]⟩, .int .u64 0, .string ⟨#[]⟩, .string ⟨#[]⟩, .string ⟨#[]⟩, .string ⟨#[]⟩, .slice none 0 0, .string ⟨#[]⟩, .bool false, .int .u64 0, .slice none 0 0], .int .i64 4]) (by simp [results, Try.results7, go_sem, k0, k1, k2, k3, k4, k5, k6, k7, k8, k9, k10]) rfl ?_
  exact ⟨.slice none 0 0, .slice none 0 0, rfl, zHd_at _, HZ.out⟩

set_option maxHeartbeats 8000000 in
theorem hread_good (s : ByteArray) (w : World) (hs : s.size ≤ 4100) (x : Raw) (hx : readF hform (bl s) = (rawF x, 0)) (ho : x.ok) : Calls Try.prog 7 #[.string s] w (HReadPost (seenH x) w) := by
  have KF := Lib.hid (fun W => fread_any ⟨#[104, 110, 104, 104, 97, 98, 42, 97, 98, 110, 110, 42, 115]⟩ s W (by decide) hs)
  have hform' : bl (⟨#[104, 110, 104, 104, 97, 98, 42, 97, 98, 110, 110, 42, 115]⟩ : ByteArray) = hform := rfl
  rw [hform', hx] at KF
  clear hform' hx
  have R0 := Lib.hid (RowAt.new w #[.string ⟨#[]⟩, .int .u64 0, .string ⟨#[]⟩, .string ⟨#[]⟩, .string ⟨#[]⟩, .string ⟨#[]⟩, .slice none 0 0, .string ⟨#[]⟩, .bool false, .int .u64 0, .slice none 0 0] 26)
  have HB := Lib.hid (bel1 w (.cells #[.string ⟨#[]⟩, .int .u64 0, .string ⟨#[]⟩, .string ⟨#[]⟩, .string ⟨#[]⟩, .string ⟨#[]⟩, .slice none 0 0, .string ⟨#[]⟩, .bool false, .int .u64 0, .slice none 0 0] 26))
  have HO := Lib.hid ho
  clear ho
  generalize hr : seenH x = r at *
  have HR := Lib.hid hr
  clear hr
  obtain ⟨pa, ht, ro, tx, pr, va, vs, vo, ad, rd, ss⟩ := x
  have hv40 : vs.length ≤ 40 := HO.out.2.2.2.2.1
  have hs40 : ss.length ≤ 40 := HO.out.2.2.2.2.2
  go_enter Try.func7, Try.ntmps7
  go_upto_region 4 with (go_at_call 24; refine (KF.out _).mono ?_; rintro e w1 ⟨p, m, c, rfl, hrt, hbl⟩; simp only; replace R0 := Lib.hid (R0.out.belowS hbl); have HT := Lib.hid (show RowT encFd _ w1 (.slice p m c) (rawF ⟨pa, ht, ro, tx, pr, va, vs, vo, ad, rd, ss⟩) from hrt); replace HB := Lib.hid (HB.out.trans (hbl.mono HB.out.size)); clear hbl hrt)
  clear KF
  obtain ⟨p', c', e', l1, l2⟩ := HT.out.shape
  injection e' with e1 e2 e3
  replace e2 : m = 11 := e2
  replace l1 : 11 ≤ c' := l1
  subst e1 e2 e3
  unfold maxLen at l2
  obtain ⟨ad0, s0, e0, -⟩ := RowT.at2 HT.out (i := 0) (t := bF pa) rfl
  subst e0
  obtain ⟨t0, a0, b0, -, -⟩ := fd_cells HT.out (i := 0) (t := bF pa) rfl
  obtain ⟨t1, a1, b1, -, -⟩ := fd_cells HT.out (i := 1) (t := nF ht) rfl
  obtain ⟨t2, a2, b2, -, -⟩ := fd_cells HT.out (i := 2) (t := bF ro) rfl
  obtain ⟨t3, a3, b3, -, -⟩ := fd_cells HT.out (i := 3) (t := bF tx) rfl
  obtain ⟨t4, a4, b4, -, -⟩ := fd_cells HT.out (i := 4) (t := bF pr) rfl
  obtain ⟨t5, a5, b5, -, -⟩ := fd_cells HT.out (i := 5) (t := bF va) rfl
  obtain ⟨⟨p6, n6, k6⟩, -, -, c6, rw6⟩ := fd_cells HT.out (i := 6) (t := lF (vs.map bF)) rfl
  obtain ⟨t7, a7, b7, -, -⟩ := fd_cells HT.out (i := 7) (t := bF vo) rfl
  obtain ⟨t8, a8, b8, -, -⟩ := fd_cells HT.out (i := 8) (t := nF ad) rfl
  obtain ⟨t9, a9, b9, -, -⟩ := fd_cells HT.out (i := 9) (t := nF rd) rfl
  obtain ⟨⟨p10, n10, k10⟩, -, -, c10, rw10⟩ := fd_cells HT.out (i := 10) (t := lF (ss.map bF)) rfl
  simp only [mkS_bl] at b0 b2 b3 b4 b5 b7
  have RW6 := Lib.hid (show RowT encFd (fun _ => True) w1 (.slice p6 n6 k6) (vs.map bF) from RowT.weaken (fun _ _ => trivial) rw6)
  have RW10 := Lib.hid (show RowT encFd (fun _ => True) w1 (.slice p10 n10 k10) (ss.map bF) from RowT.weaken (fun _ _ => trivial) rw10)
  clear b1 b8 b9 a0 a2 a3 a4 a5 a7 rw6 rw10 HT t0 t1 t2 t3 t4 t5 t7 t8 t9
  obtain ⟨_, _, e6, l3, l4⟩ := RW6.out.shape
  obtain ⟨_, _, e10, l5, l6⟩ := RW10.out.shape
  injection e6 with f1 f2 f3
  injection e10 with g1 g2 g3
  rw [List.length_map] at f2 g2 l3 l5
  subst f1 f2 f3 g1 g2 g3
  unfold maxLen at l4 l6
  have HC6 := Lib.hid (show w1.cell? ⟨ad0.block, ad0.off + 18 + 2, none⟩ = some (.slice p6 vs.length k6) from c6)
  have HC10 := Lib.hid (show w1.cell? ⟨ad0.block, ad0.off + 30 + 2, none⟩ = some (.slice p10 ss.length k10) from c10)
  have HC8 := Lib.hid (show w1.cell? ⟨ad0.block, ad0.off + 24, none⟩ = some (.int .u64 (ad : Int)) from a8)
  clear c6 c10
  obtain ⟨Ws, g0, g1, g2⟩ : ∃ Ws : Nat → World, Ws 0 = w1.drew ∧ Ws 1 = w1.drew.alloc (.cells #[.string ⟨#[]⟩, .int .u64 0, .string ⟨#[]⟩, .string ⟨#[]⟩, .string ⟨#[]⟩, .string ⟨#[]⟩, .slice none 0 0, .string ⟨#[]⟩, .bool false, .int .u64 0, .slice none 0 0] 26) ∧ Ws 2 = (w1.alloc (.cells #[.string pa, .int .u64 (ht : Int), .string ro, .string tx, .string pr, .string va, .slice none 0 0, .string vo, .bool ((ad : Int) == 1), .int .u64 (rd : Int), .slice none 0 0] 26)).drew :=
    ⟨fun s => match s with | 0 => w1.drew | 1 => w1.drew.alloc (.cells #[.string ⟨#[]⟩, .int .u64 0, .string ⟨#[]⟩, .string ⟨#[]⟩, .string ⟨#[]⟩, .string ⟨#[]⟩, .slice none 0 0, .string ⟨#[]⟩, .bool false, .int .u64 0, .slice none 0 0] 26) | _ => (w1.alloc (.cells #[.string pa, .int .u64 (ht : Int), .string ro, .string tx, .string pr, .string va, .slice none 0 0, .string vo, .bool ((ad : Int) == 1), .int .u64 (rd : Int), .slice none 0 0] 26)).drew, rfl, rfl, rfl⟩
  have hW : ∀ s, s ≤ 2 → Below w1.heap.size w1 (Ws s) := fun s hs => by
    match s, hs with
    | 0, _ => rw [g0]; exact (Below.refl _ _).drew
    | 1, _ => rw [g1]; exact (Below.refl _ _).drew.alloc (Nat.le_refl _) _
    | 2, _ => rw [g2]; exact ((Below.refl _ _).alloc (Nat.le_refl _) _).drew
  have key : ∀ {a : Addr} {v : Value}, w1.cell? a = some v → ∀ s : { s : Nat // s ≤ 2 }, (Ws s.1).cell? a = some v := fun h ⟨s, hs⟩ => by
    rw [(hW s hs).cell (block_lt_of_cell h)]; exact h
  replace b0 := key b0
  replace a1 := key a1
  replace b2 := key b2
  replace b3 := key b3
  replace b4 := key b4
  replace b5 := key b5
  replace b7 := key b7
  replace a8 := key a8
  replace a9 := key a9
  have HW := Lib.hid hW
  have G0 := Lib.hid g0
  have G1 := Lib.hid g1
  have G2 := Lib.hid g2
  have HL := Lib.hid R0.out.lt
  clear key hW g0 g1 g2
  simp only [Nat.zero_mul, Nat.one_mul, Nat.reduceMul, Addr.add_zero', addr_add1 _ 2, addr_add1 _ 5, addr_add1 _ 8, addr_add1 _ 11, addr_add1 _ 14, addr_add1 _ 20, addr_add1 _ 23, addr_add1 _ 26, Nat.reduceAdd] at b0 a1 b2 b3 b4 b5 b7 a8 a9
  (refine region_stages [38, 39] (fun k => 2) Ws mix ?hB G0.out ?_; case hB => kernel_rfl); ((with_reducible refine stg_step 2 ?hkk ?_); (case hkk => rfl); intro K hK; go_simp; (with_reducible refine hK _ ?_; clear hK K)); ((with_reducible refine stg_step 2 ?hkk ?_); (case hkk => rfl); intro K hK; go_simp; (with_reducible refine hK _ ?_; clear hK K)); ((with_reducible refine stg_step 2 ?hkk ?_); (case hkk => rfl); intro K hK; go_simp; (with_reducible refine hK _ ?_; clear hK K)); ((with_reducible refine stg_step 2 ?hkk ?_); (case hkk => rfl); intro K hK; go_simp; (with_reducible refine hK _ ?_; clear hK K)); ((with_reducible refine stg_step 2 ?hkk ?_); (case hkk => rfl); intro K hK; go_simp; (with_reducible refine hK _ ?_; clear hK K)); ((with_reducible refine stg_step 2 ?hkk ?_); (case hkk => rfl); intro K hK; go_simp; (with_reducible refine hK _ ?_; clear hK K)); ((with_reducible refine stg_step 2 ?hkk ?_); (case hkk => rfl); intro K hK; go_simp; (with_reducible refine hK _ ?_; clear hK K)); ((with_reducible refine stg_step 2 ?hkk ?_); (case hkk => rfl); intro K hK; go_simp; (with_reducible refine hK _ ?_; clear hK K)); ((with_reducible refine stg_step 2 ?hkk ?_); (case hkk => rfl); intro K hK; go_simp; (with_reducible refine hK _ ?_; clear hK K)); ((with_reducible refine stg_step 2 ?hkk ?_); (case hkk => rfl); intro K hK; go_simp; (with_reducible refine hK _ ?_; clear hK K)); ((with_reducible refine stg_step 2 ?hkk ?_); (case hkk => rfl); intro K hK; go_simp; (with_reducible refine hK _ ?_; clear hK K)); ((with_reducible refine stg_step 2 ?hkk ?_); (case hkk => rfl); intro K hK; go_simp; (with_reducible refine hK _ ?_; clear hK K)); ((with_reducible refine stg_step 2 ?hkk ?_); (case hkk => rfl); intro K hK; go_simp; (with_reducible refine hK _ ?_; clear hK K)); ((with_reducible refine stg_step 2 ?hkk ?_); (case hkk => rfl); intro K hK; go_simp; (with_reducible refine hK _ ?_; clear hK K)); ((with_reducible refine stg_step 2 ?hkk ?_); (case hkk => rfl); intro K hK; go_simp; (with_reducible refine hK _ ?_; clear hK K)); ((with_reducible refine stg_step 2 ?hkk ?_); (case hkk => rfl); intro K hK; go_simp; (with_reducible refine hK _ ?_; clear hK K)); ((with_reducible refine stg_step 2 ?hkk ?_); (case hkk => rfl); intro K hK; go_simp; (with_reducible refine hK _ ?_; clear hK K)); ((with_reducible refine stg_step 2 ?hkk ?_); (case hkk => rfl); intro K hK; go_simp; (with_reducible refine hK _ ?_; clear hK K)); ((with_reducible refine stg_step 2 ?hkk ?_); (case hkk => rfl); intro K hK; go_simp; (with_reducible refine hK _ ?_; clear hK K)); ((with_reducible refine stg_step 2 ?hkk ?_); (case hkk => rfl); intro K hK; go_simp; (with_reducible refine hK _ ?_; clear hK K)); ((with_reducible refine stg_step 2 ?hkk ?_); (case hkk => rfl); intro K hK; go_simp; (with_reducible refine hK _ ?_; clear hK K)); ((with_reducible refine stg_step 2 ?hkk ?_); (case hkk => rfl); intro K hK; go_simp; (with_reducible refine hK _ ?_; clear hK K)); ((with_reducible refine stg_step 2 ?hkk ?_); (case hkk => rfl); intro K hK; go_simp; (with_reducible refine hK _ ?_; clear hK K)); ((with_reducible refine stg_step 2 ?hkk ?_); (case hkk => rfl); intro K hK; go_simp; (with_reducible refine hK _ ?_; clear hK K)); ((with_reducible refine stg_step 2 ?hkk ?_); (case hkk => rfl); intro K hK; go_simp; (with_reducible refine hK _ ?_; clear hK K)); ((with_reducible refine stg_step 2 ?hkk ?_); (case hkk => rfl); intro K hK; go_simp; (with_reducible refine hK _ ?_; clear hK K)); ((with_reducible refine stg_step 2 ?hkk ?_); (case hkk => rfl); intro K hK; go_simp; (with_reducible refine hK _ ?_; clear hK K)); ((with_reducible refine stg_step 2 ?hkk ?_); (case hkk => rfl); intro K hK; go_simp; (with_reducible refine hK _ ?_; clear hK K)); ((with_reducible refine stg_step 2 ?hkk ?_); (case hkk => rfl); intro K hK; go_simp; (with_reducible refine hK _ ?_; clear hK K)); ((with_reducible refine stg_step 2 ?hkk ?_); (case hkk => rfl); intro K hK; go_simp; (with_reducible refine hK _ ?_; clear hK K)); ((with_reducible refine stg_step 2 ?hkk ?_); (case hkk => rfl); intro K hK; go_simp; (with_reducible refine hK _ ?_; clear hK K)); ((with_reducible refine stg_step 2 ?hkk ?_); (case hkk => rfl); intro K hK; go_simp; (with_reducible refine hK _ ?_; clear hK K)); ((with_reducible refine stg_step 2 ?hkk ?_); (case hkk => rfl); intro K hK; go_simp; (with_reducible refine hK _ ?_; clear hK K)); ((with_reducible refine stg_step 2 ?hkk ?_); (case hkk => rfl); intro K hK; go_simp; (with_reducible refine hK _ ?_; clear hK K)); ((with_reducible refine stg_step 2 ?hkk ?_); (case hkk => rfl); intro K hK; go_simp; (with_reducible refine hK _ ?_; clear hK K)); ((with_reducible refine stg_step 2 ?hkk ?_); (case hkk => rfl); intro K hK; go_simp; (with_reducible refine hK _ ?_; clear hK K)); ((with_reducible refine stg_step 2 ?hkk ?_); (case hkk => rfl); intro K hK; go_simp; (with_reducible refine hK _ ?_; clear hK K)); ((with_reducible refine stg_step 2 ?hkk ?_); (case hkk => rfl); intro K hK; go_simp; (with_reducible refine hK _ ?_; clear hK K)); (refine stg_eff 0 (.pointer (some ⟨w1.heap.size, 0, none⟩)) rfl (by decide) rfl ?he ?_; case he => (show effUpon (Ws 1) _ (Sem.run _ _ (Ws 0)); (rw [G1.out, G0.out]; unfold effUpon; go_simp))); go_simp; (refine stg_eff 1 (undef) rfl (by decide) rfl ?he ?_; case he => (show effUpon (Ws 2) _ (Sem.run _ _ (Ws 1)); (rw [G2.out, G1.out]; unfold effUpon; go_simp))); go_simp; (with_reducible refine stg_nil ?_)
  have RH := Lib.hid (show RowAt (Ws 2) w1.heap.size #[.string pa, .int .u64 (ht : Int), .string ro, .string tx, .string pr, .string va, .slice none 0 0, .string vo, .bool ((ad : Int) == 1), .int .u64 (rd : Int), .slice none 0 0] 26 from by rw [G2.out]; exact (RowAt.new _ _ _).drew)
  have HB1 := Lib.hid (HW.out 2 (Nat.le_refl _))
  have O0 : Hid (OwnE encS 9 (Ws 2) (w1.heap.size + 1) (.slice none 0 0) (vs.take 0)) := Lib.hid (OwnE.nil encS _ _ _)
  clear G0 G1 G2 HW b0 a1 b2 b3 b4 b5 b7 a8 a9
  generalize Ws 2 = W2 at *
  clear Ws
  have y6 := (HB1.out.cell (block_lt_of_cell HC6.out)).trans HC6.out
  go_upto_region 6 with (fail)
  clear y6
  go_loopw [64] (fun s64 wr => ∃ (i : Nat) (p : Option Addr) (c : Nat), i ≤ vs.length ∧ s64 = .int .i64 i ∧ Hid (RowAt wr w1.heap.size #[.string pa, .int .u64 (ht : Int), .string ro, .string tx, .string pr, .string va, .slice p i c, .string vo, .bool ((ad : Int) == 1), .int .u64 (rd : Int), .slice none 0 0] 26) ∧ Hid (OwnE encS 9 wr (w1.heap.size + 1) (.slice p i c) (vs.take i)) ∧ Hid (Below w1.heap.size w1 wr)) (fun s _ => vs.length - (intOf s).toNat)
  case atStart => exact ⟨0, none, 0, Nat.zero_le _, rfl, RH, O0, HB1⟩
  case round =>
    clear RH O0 HB1
    obtain ⟨i, p, c, hi, rfl, rh, ho, hb⟩ := hrel
    have RH := Lib.hid rh.out
    have O := Lib.hid ho.out
    have HB1 := Lib.hid hb.out
    clear rh ho hb
    have HTL : Hid ((vs.take i).length = i) := Lib.hid (by simp; omega)
    by_cases hlt : i < vs.length
    · obtain ⟨s1, hs1⟩ : ∃ s, vs[i]? = some s := ⟨_, List.getElem?_eq_getElem hlt⟩
      have HTK : Hid (vs.take i ++ [s1] = vs.take (i + 1)) := Lib.hid (by rw [List.take_add_one, hs1]; rfl)
      have hrow := RowT.below RW6.out HB1.out (Nat.le_refl _)
      obtain ⟨a6, _, e0, -⟩ := RowT.at2 hrow (i := i) (t := bF s1) (by rw [List.getElem?_map, hs1]; rfl)
      subst e0
      obtain ⟨⟨q, qn, qc⟩, d0, d1, d2, -⟩ := fd_cells hrow (i := i) (t := bF s1) (by rw [List.getElem?_map, hs1]; rfl)
      clear hrow hs1
      rw [mkS_bl] at d1
      replace d0 : wr.cell? (a6.add (i * 3)) = some (.int .u64 0) := d0
      replace d2 : wr.cell? ⟨(a6.add (i * 3)).block, (a6.add (i * 3)).off + 2, none⟩ = some (.slice q qn qc) := d2
      go_upto_region 8 with (fail)
      have RF := Lib.hid (RowAt.new wr #[.int .u64 0, .string s1, .slice q qn qc] 64)
      replace RH := Lib.hid (RH.out.alloc (.cells #[.int .u64 0, .string s1, .slice q qn qc] 64))
      replace O := Lib.hid (OwnE.below encS O.out (bel1 wr (.cells #[.int .u64 0, .string s1, .slice q qn qc] 64)) (Nat.le_refl _))
      replace HB1 := Lib.hid (HB1.out.alloc HB1.out.size (.cells #[.int .u64 0, .string s1, .slice q qn qc] 64))
      have hf0 : (wr.alloc (.cells #[.int .u64 0, .string s1, .slice q qn qc] 64)).heap.size = wr.heap.size + 1 := by simp
      generalize hW3 : wr.alloc (.cells #[.int .u64 0, .string s1, .slice q qn qc] 64) = W3 at *
      clear hW3 d0 d1 d2
      obtain ⟨y0, y1, y2, -, -, -⟩ := RF.out.c3
      have z6 : W3.cell? ⟨w1.heap.size, 6, none⟩ = some (.slice p i c) := RH.out.cell 6
      have R4 := Lib.hid (RowAt.new W3 #[.string s1] 9)
      have RH4 := Lib.hid (RH.out.alloc (.cells #[.string s1] 9))
      have O4 := Lib.hid (OwnE.below encS O.out (bel1 W3 (.cells #[.string s1] 9)) (Nat.le_refl _))
      have HB4 := Lib.hid (HB1.out.alloc HB1.out.size (.cells #[.string s1] 9))
      have HL4 := Lib.hid (RowE.lit encS R4.out s1 rfl)
      have HSZ : Hid (w1.heap.size + 1 ≤ (W3.alloc (.cells #[.string s1] 9)).heap.size) := Lib.hid RH4.out.lt
      clear RF RH O HB1 hf0
      go_upto_region 9 with (at_builtin; refine wpList_append_rowE encS Try.underlying23 info_str rfl rfl _ _ rfl (w1.heap.size + 1) _ (vs.take i) rfl O4.out _ [s1] rfl HL4.out (by unfold maxLen; rw [HTL.out]; simp; omega) (by rw [HTL.out]; simp; omega) HSZ.out ?_)
      intro v' w' ho hbb hz _
      obtain ⟨p', c', e, _, _⟩ := RowE.shape encS (OwnE.row encS ho)
      rw [List.length_append, HTL.out, List.length_singleton] at e
      subst e
      have RH5 := Lib.hid (RH4.out.below (hbb _ (Below.refl _ _)) (Nat.lt_succ_self _))
      have HB5 := Lib.hid (HB4.out.trans ((hbb _ (Below.refl _ _)).mono (Nat.le_succ _)))
      have O5 := Lib.hid ho
      clear ho hbb hz O4 HB4 HL4 R4 RH4
      have z7 : w'.cell? ⟨w1.heap.size, 6, none⟩ = some (.slice p i c) := RH5.out.cell 6
      have z8 := RH5.out.frozen 6
      have RH6 := Lib.hid (show RowAt (w'.setCell ⟨w1.heap.size, 6, none⟩ (.slice p' (i + 1) c')) w1.heap.size #[.string pa, .int .u64 (ht : Int), .string ro, .string tx, .string pr, .string va, .slice p' (i + 1) c', .string vo, .bool ((ad : Int) == 1), .int .u64 (rd : Int), .slice none 0 0] 26 from RH5.out.set 6 (.slice p' (i + 1) c') rfl)
      have O6 := Lib.hid (show OwnE encS 9 (w'.setCell ⟨w1.heap.size, 6, none⟩ (.slice p' (i + 1) c')) (w1.heap.size + 1) (.slice p' (i + 1) c') (vs.take (i + 1)) from by rw [← HTK.out]; exact O5.out.setLow ⟨w1.heap.size, 6, none⟩ _ (Nat.lt_succ_self _))
      have HB6 := Lib.hid (HB5.out.setCell (p := ⟨w1.heap.size, 6, none⟩) (Nat.le_refl _) (.slice p' (i + 1) c'))
      clear RH5 O5 HB5
      go_wp2
      exact ⟨⟨i + 1, p', c', by omega, by simp, RH6, O6, HB6⟩, by simp [intOf]; omega⟩
    · obtain rfl : i = vs.length := by omega
      have OV := Lib.hid (show OwnE encS 9 wr (w1.heap.size + 1) (.slice p vs.length c) vs from by have := O.out; rwa [List.take_length] at this)
      clear O HTL RW6 HC6 hi
      have z10 := (HB1.out.cell (block_lt_of_cell HC10.out)).trans HC10.out
      go_upto_region 11 with (fail)
      clear z10
      have G0 : Hid (OwnE encG 68 wr wr.heap.size (.slice none 0 0) ((ss.map sgFrom).take 0)) := Lib.hid (OwnE.nil encG _ _ _)
      have K0 := Lib.hid (KB.refl wr w1.heap.size)
      have HWS : Hid (w1.heap.size < wr.heap.size) := Lib.hid RH.out.lt
      have HOK0 : Hid (∀ g ∈ ss.take 0, sigOk (sgFrom g) = true) := Lib.hid (fun g hg => by simp at hg)
      generalize wr = W5 at *
      go_loopw [81] (fun s81 wr => ∃ (i : Nat) (q : Option Addr) (d : Nat), i ≤ ss.length ∧ s81 = .int .i64 i ∧ Hid (RowAt wr w1.heap.size #[.string pa, .int .u64 (ht : Int), .string ro, .string tx, .string pr, .string va, .slice p vs.length c, .string vo, .bool ((ad : Int) == 1), .int .u64 (rd : Int), .slice q i d] 26) ∧ Hid (OwnE encG 68 wr W5.heap.size (.slice q i d) ((ss.map sgFrom).take i)) ∧ Hid (Below w1.heap.size w1 wr) ∧ Hid (KB W5 w1.heap.size wr) ∧ Hid (∀ g ∈ ss.take i, sigOk (sgFrom g) = true)) (fun s _ => ss.length - (intOf s).toNat)
      case atStart => exact ⟨0, none, 0, Nat.zero_le _, rfl, RH, G0, HB1, K0, HOK0⟩
      case round =>
        clear RH G0 K0 HOK0 HB1
        obtain ⟨i, q, d, hi, rfl, rh, hg, hb, hk, hok⟩ := hrel
        have RH := Lib.hid rh.out
        have G := Lib.hid hg.out
        have HB1 := Lib.hid hb.out
        have HK := Lib.hid hk.out
        have HOK := Lib.hid hok.out
        clear rh hg hb hk hok
        have HTL : Hid (((ss.map sgFrom).take i).length = i) := Lib.hid (by simp; omega)
        by_cases hlt : i < ss.length
        · obtain ⟨s1, hs1⟩ : ∃ s, ss[i]? = some s := ⟨_, List.getElem?_eq_getElem hlt⟩
          have hz65 : s1.size = 65 := HO.out.1 s1 (List.mem_of_getElem? hs1)
          have HTK : Hid ((ss.map sgFrom).take i ++ [sgFrom s1] = (ss.map sgFrom).take (i + 1)) := Lib.hid (by rw [List.take_add_one, List.getElem?_map, hs1]; rfl)
          have HTM : Hid (∀ b, sigOk (sgFrom s1) = b → (b = true → ∀ g ∈ ss.take (i + 1), sigOk (sgFrom g) = true) ∧ (b = false → seenH ⟨pa, ht, ro, tx, pr, va, vs, vo, ad, rd, ss⟩ = (zHd, 4))) := Lib.hid (fun b hb => ⟨fun e g hg => by
            rw [List.take_add_one, hs1] at hg
            rcases List.mem_append.1 hg with h | h
            · exact HOK.out g h
            · have : g = s1 := by simpa using h
              rw [this, hb, e], fun e => seen_no (List.mem_of_getElem? hs1) (by rw [hb, e])⟩)
          have hrow := RowT.below RW10.out HB1.out (Nat.le_refl _)
          obtain ⟨a10, _, e0, -⟩ := RowT.at2 hrow (i := i) (t := bF s1) (by rw [List.getElem?_map, hs1]; rfl)
          subst e0
          obtain ⟨⟨q3, qn, qc⟩, d0, d1, d2, -⟩ := fd_cells hrow (i := i) (t := bF s1) (by rw [List.getElem?_map, hs1]; rfl)
          clear hrow hs1
          rw [mkS_bl] at d1
          replace d0 : wr.cell? (a10.add (i * 3)) = some (.int .u64 0) := d0
          replace d2 : wr.cell? ⟨(a10.add (i * 3)).block, (a10.add (i * 3)).off + 2, none⟩ = some (.slice q3 qn qc) := d2
          have KF := Lib.hid (fun W => fromS_any s1 W hz65)
          have HFS : Hid (∀ b, sigOk (sgFrom s1) = b → fromS s1 = if b = true then (sgFrom s1, 0) else (zSg, 4)) := Lib.hid (fun b e => by unfold fromS; rw [e])
          have HSO := Lib.hid (sgFrom_ok s1)
          clear hz65
          go_upto_region 13 with (fail)
          have HBA := bel1 wr (.cells #[.int .u64 0, .string s1, .slice q3 qn qc] 64)
          have RF := Lib.hid (RowAt.new wr #[.int .u64 0, .string s1, .slice q3 qn qc] 64)
          replace RH := Lib.hid (RH.out.belowS HBA)
          replace G := Lib.hid (OwnE.below encG G.out HBA (Nat.le_refl _))
          replace HK := Lib.hid (HK.out.below HBA HK.out.1)
          replace HB1 := Lib.hid (HB1.out.alloc HB1.out.size (.cells #[.int .u64 0, .string s1, .slice q3 qn qc] 64))
          clear HBA
          generalize hW3 : wr.alloc (.cells #[.int .u64 0, .string s1, .slice q3 qn qc] 64) = W3 at *
          clear hW3 d0 d1 d2
          obtain ⟨y0, y1, y2, -, -, -⟩ := RF.out.c3
          cases e : sigOk (sgFrom s1) with
          | false =>
            rw [HFS.out _ e] at KF
            have HNO := Lib.hid ((HTM.out _ e).2 rfl)
            simp only [Bool.false_eq_true, if_false] at KF
            dsimp only [sgV, sgc, zSg, zU] at KF
            clear e HFS HTM HTK HSO G RH HK HOK HTL OV RW10 HC10 HC8
            go_upto_region 15 with (go_at_call 25; ((with_reducible refine (KF.out _).mono ?_)); rintro e4 w4 ⟨rfl, hb⟩; replace HB1 := Lib.hid (HB1.out.trans (hb.mono HB1.out.size)); clear hb y0 y1 y2)
            replace HB1 := Lib.hid (HB1.out.alloc HB1.out.size (.cells #[.int .u64 0, .int .u64 0, .int .u64 0, .int .u64 0, .int .u64 0, .int .u64 0, .int .u64 0, .int .u64 0, .int .i64 0] 68))
            replace R0 := Lib.hid (R0.out.below HB1.out HL.out)
            have HBZ := Lib.hid (HB.out.trans (HB1.out.mono HB.out.size))
            generalize w4.alloc (.cells #[.int .u64 0, .int .u64 0, .int .u64 0, .int .u64 0, .int .u64 0, .int .u64 0, .int .u64 0, .int .u64 0, .int .i64 0] 68) = W6 at *
            obtain ⟨x0, x1, x2, x3, x4, x5, x6, x7, x8, x9, x10⟩ := R0.out.c11; obtain ⟨f0, f1, f2, f3, f4, f5, f6, f7, f8, f9, f10⟩ := R0.out.f11
            go_wp2
            have RZ := Lib.hid (show RowAt (((((((((((W6.setCell ⟨w.heap.size, 0, none⟩ (.string ⟨#[]⟩)).setCell ⟨w.heap.size, 1, none⟩ (.int .u64 0)).setCell ⟨w.heap.size, 2, none⟩ (.string ⟨#[]⟩)).setCell ⟨w.heap.size, 3, none⟩ (.string ⟨#[]⟩)).setCell ⟨w.heap.size, 4, none⟩ (.string ⟨#[]⟩)).setCell ⟨w.heap.size, 5, none⟩ (.string ⟨#[]⟩)).setCell ⟨w.heap.size, 6, none⟩ (.slice none 0 0)).setCell ⟨w.heap.size, 7, none⟩ (.string ⟨#[]⟩)).setCell ⟨w.heap.size, 8, none⟩ (.bool false)).setCell ⟨w.heap.size, 9, none⟩ (.int .u64 0)).setCell ⟨w.heap.size, 10, none⟩ (.slice none 0 0)) w.heap.size #[.string ⟨#[]⟩, .int .u64 0, .string ⟨#[]⟩, .string ⟨#[]⟩, .string ⟨#[]⟩, .string ⟨#[]⟩, .slice none 0 0, .string ⟨#[]⟩, .bool false, .int .u64 0, .slice none 0 0] 26 from R0.out.set11 (.string ⟨#[]⟩) (.int .u64 0) (.string ⟨#[]⟩) (.string ⟨#[]⟩) (.string ⟨#[]⟩) (.string ⟨#[]⟩) (.slice none 0 0) (.string ⟨#[]⟩) (.bool false) (.int .u64 0) (.slice none 0 0))
            have HZ := Lib.hid (show Below w.heap.size w (((((((((((W6.setCell ⟨w.heap.size, 0, none⟩ (.string ⟨#[]⟩)).setCell ⟨w.heap.size, 1, none⟩ (.int .u64 0)).setCell ⟨w.heap.size, 2, none⟩ (.string ⟨#[]⟩)).setCell ⟨w.heap.size, 3, none⟩ (.string ⟨#[]⟩)).setCell ⟨w.heap.size, 4, none⟩ (.string ⟨#[]⟩)).setCell ⟨w.heap.size, 5, none⟩ (.string ⟨#[]⟩)).setCell ⟨w.heap.size, 6, none⟩ (.slice none 0 0)).setCell ⟨w.heap.size, 7, none⟩ (.string ⟨#[]⟩)).setCell ⟨w.heap.size, 8, none⟩ (.bool false)).setCell ⟨w.heap.size, 9, none⟩ (.int .u64 0)).setCell ⟨w.heap.size, 10, none⟩ (.slice none 0 0)) from below_set11 (o := 0) HBZ.out (Nat.le_refl _) (.string ⟨#[]⟩) (.int .u64 0) (.string ⟨#[]⟩) (.string ⟨#[]⟩) (.string ⟨#[]⟩) (.string ⟨#[]⟩) (.slice none 0 0) (.string ⟨#[]⟩) (.bool false) (.int .u64 0) (.slice none 0 0))
            generalize (((((((((((W6.setCell ⟨w.heap.size, 0, none⟩ (.string ⟨#[]⟩)).setCell ⟨w.heap.size, 1, none⟩ (.int .u64 0)).setCell ⟨w.heap.size, 2, none⟩ (.string ⟨#[]⟩)).setCell ⟨w.heap.size, 3, none⟩ (.string ⟨#[]⟩)).setCell ⟨w.heap.size, 4, none⟩ (.string ⟨#[]⟩)).setCell ⟨w.heap.size, 5, none⟩ (.string ⟨#[]⟩)).setCell ⟨w.heap.size, 6, none⟩ (.slice none 0 0)).setCell ⟨w.heap.size, 7, none⟩ (.string ⟨#[]⟩)).setCell ⟨w.heap.size, 8, none⟩ (.bool false)).setCell ⟨w.heap.size, 9, none⟩ (.int .u64 0)).setCell ⟨w.heap.size, 10, none⟩ (.slice none 0 0)) = WZ at *
            obtain ⟨k0, k1, k2, k3, k4, k5, k6, k7, k8, k9, k10⟩ := RZ.out.c11
            clear x0 f0 x1 f1 x2 f2 x3 f3 x4 f4 x5 f5 x6 f6 x7 f7 x8 f8 x9 f9 x10 f10 R0 RZ
            (try simp only [Exit.inBlock, Exit.then])
            refine bodyPost_ret (v := .tuple #[.agg #[.string ⟨#[]⟩, .int .u64 0, .string ⟨#[]⟩, .string ⟨#[]⟩, .string ⟨#[]⟩, .string ⟨#[]⟩, .slice none 0 0, .string ⟨#[]⟩, .bool false, .int .u64 0, .slice none 0 0], .int .i64 4]) (by simp [results, Try.results7, go_sem, k0, k1, k2, k3, k4, k5, k6, k7, k8, k9, k10]) rfl ?_
            have hr4 : r = (zHd, 4) := by rw [← HR.out]; exact HNO.out
            rw [hr4]
            exact ⟨.slice none 0 0, .slice none 0 0, rfl, zHd_at _, HZ.out⟩
          | true =>
            rw [HFS.out _ e] at KF
            have HOK2 := Lib.hid ((HTM.out _ e).1 rfl)
            simp only [if_true] at KF
            clear e HFS HTM HOK
            generalize sgFrom s1 = g at *
            obtain ⟨⟨r0, r1, r2, r3⟩, ⟨s0', s1', s2', s3'⟩, v⟩ := g
            dsimp only [sgV, sgc] at KF
            go_upto_region 16 with (go_at_call 25; ((with_reducible refine (KF.out _).mono ?_)); rintro e4 w4 ⟨rfl, hb⟩; replace RH := Lib.hid (RH.out.belowS hb); replace G := Lib.hid (OwnE.below encG G.out hb (Nat.le_refl _)); replace HK := Lib.hid (HK.out.below hb HK.out.1); replace HB1 := Lib.hid (HB1.out.trans (hb.mono HB1.out.size)); clear hb y0 y1 y2)
            have HBA := bel1 w4 (.cells #[.int .u64 r0, .int .u64 r1, .int .u64 r2, .int .u64 r3, .int .u64 s0', .int .u64 s1', .int .u64 s2', .int .u64 s3', .int .i64 v] 68)
            have RX := Lib.hid (RowAt.new w4 #[.int .u64 r0, .int .u64 r1, .int .u64 r2, .int .u64 r3, .int .u64 s0', .int .u64 s1', .int .u64 s2', .int .u64 s3', .int .i64 v] 68)
            replace RH := Lib.hid (RH.out.belowS HBA)
            replace G := Lib.hid (OwnE.below encG G.out HBA (Nat.le_refl _))
            replace HK := Lib.hid (HK.out.below HBA HK.out.1)
            replace HB1 := Lib.hid (HB1.out.alloc HB1.out.size (.cells #[.int .u64 r0, .int .u64 r1, .int .u64 r2, .int .u64 r3, .int .u64 s0', .int .u64 s1', .int .u64 s2', .int .u64 s3', .int .i64 v] 68))
            clear HBA KF RF
            generalize hW6 : w4.alloc (.cells #[.int .u64 r0, .int .u64 r1, .int .u64 r2, .int .u64 r3, .int .u64 s0', .int .u64 s1', .int .u64 s2', .int .u64 s3', .int .i64 v] 68) = W6 at *
            clear hW6
            obtain ⟨x0, x1, x2, x3, x4, x5, x6, x7, x8⟩ := RX.out.c9
            have z10 : W6.cell? ⟨w1.heap.size, 10, none⟩ = some (.slice q i d) := RH.out.cell 10
            have R4 := Lib.hid (RowAt.new W6 #[.int .u64 r0, .int .u64 r1, .int .u64 r2, .int .u64 r3, .int .u64 s0', .int .u64 s1', .int .u64 s2', .int .u64 s3', .int .i64 v] 68)
            have HBA := bel1 W6 (.cells #[.int .u64 r0, .int .u64 r1, .int .u64 r2, .int .u64 r3, .int .u64 s0', .int .u64 s1', .int .u64 s2', .int .u64 s3', .int .i64 v] 68)
            have RH4 := Lib.hid (RH.out.belowS HBA)
            have G4 := Lib.hid (OwnE.below encG G.out HBA (Nat.le_refl _))
            have HK4 := Lib.hid (HK.out.below HBA HK.out.1)
            have HB4 := Lib.hid (HB1.out.alloc HB1.out.size (.cells #[.int .u64 r0, .int .u64 r1, .int .u64 r2, .int .u64 r3, .int .u64 s0', .int .u64 s1', .int .u64 s2', .int .u64 s3', .int .i64 v] 68))
            have HL4 := Lib.hid (RowE.lit encG R4.out ((r0, r1, r2, r3), (s0', s1', s2', s3'), v) rfl)
            have HSZ : Hid (W5.heap.size ≤ (W6.alloc (.cells #[.int .u64 r0, .int .u64 r1, .int .u64 r2, .int .u64 r3, .int .u64 s0', .int .u64 s1', .int .u64 s2', .int .u64 s3', .int .i64 v] 68)).heap.size) := Lib.hid HK4.out.1
            clear RX RH G HK HB1 HBA
            go_upto_region 17 with (at_builtin; refine wpList_append_rowE encG Try.underlying24 info_sg rfl rfl _ _ rfl W5.heap.size _ ((ss.map sgFrom).take i) rfl G4.out _ [((r0, r1, r2, r3), (s0', s1', s2', s3'), v)] rfl HL4.out (by unfold maxLen; rw [HTL.out]; simp; omega) (by rw [HTL.out]; simp; omega) HSZ.out ?_)
            intro v' w' ho hbb hz _
            obtain ⟨p', c', e, _, _⟩ := RowE.shape encG (OwnE.row encG ho)
            rw [List.length_append, HTL.out, List.length_singleton] at e
            subst e
            have RH5 := Lib.hid (RH4.out.below (hbb _ (Below.refl _ _)) HWS.out)
            have HB5 := Lib.hid (HB4.out.trans ((hbb _ (Below.refl _ _)).mono (Nat.le_of_lt HWS.out)))
            have HK5 := Lib.hid (HK4.out.below (hbb _ (Below.refl _ _)) (Nat.le_refl _))
            have G5 := Lib.hid ho
            clear ho hbb hz G4 HB4 HL4 R4 RH4 HK4 z10 x0 x1 x2 x3 x4 x5 x6 x7 x8
            have z7 : w'.cell? ⟨w1.heap.size, 10, none⟩ = some (.slice q i d) := RH5.out.cell 10
            have z8 := RH5.out.frozen 10
            have RH6 := Lib.hid (show RowAt (w'.setCell ⟨w1.heap.size, 10, none⟩ (.slice p' (i + 1) c')) w1.heap.size #[.string pa, .int .u64 (ht : Int), .string ro, .string tx, .string pr, .string va, .slice p vs.length c, .string vo, .bool ((ad : Int) == 1), .int .u64 (rd : Int), .slice p' (i + 1) c'] 26 from RH5.out.set 10 (.slice p' (i + 1) c') rfl)
            have G6 := Lib.hid (show OwnE encG 68 (w'.setCell ⟨w1.heap.size, 10, none⟩ (.slice p' (i + 1) c')) W5.heap.size (.slice p' (i + 1) c') ((ss.map sgFrom).take (i + 1)) from by rw [← HTK.out]; exact G5.out.setLow ⟨w1.heap.size, 10, none⟩ _ HWS.out)
            have HB6 := Lib.hid (HB5.out.setCell (p := ⟨w1.heap.size, 10, none⟩) (Nat.le_refl _) (.slice p' (i + 1) c'))
            have HK6 := Lib.hid (HK5.out.set 10 (.slice p' (i + 1) c'))
            clear RH5 G5 HB5 HK5
            go_wp2
            exact ⟨⟨i + 1, p', c', by omega, by simp, RH6, G6, HB6, HK6, HOK2⟩, by simp [intOf]; omega⟩
        · obtain rfl : i = ss.length := by omega
          have OG := Lib.hid (show OwnE encG 68 wr W5.heap.size (.slice q ss.length d) (ss.map sgFrom) from by have := G.out; rwa [List.take_of_length_le (by simp)] at this)
          have OV2 := Lib.hid (OV.out.keepBut HK.out (Nat.lt_succ_self _))
          have z8 := (HB1.out.cell (block_lt_of_cell HC8.out)).trans HC8.out
          have HAT : Hid (HdAt wr (toH ⟨pa, ht, ro, tx, pr, va, vs, vo, ad, rd, ss⟩) (.slice p vs.length c) (.slice q ss.length d)) := Lib.hid ⟨OwnE.row encS OV2.out, OwnE.row encG OG.out, fun g hg => by
            obtain ⟨t, _, rfl⟩ := List.mem_map.1 hg
            exact sgFrom_ok t⟩
          clear G OV HK HOK HTL RW10 HC10 hi hlt
          by_cases had : ad ≤ 1
          · have KR := hRight_any (toH ⟨pa, ht, ro, tx, pr, va, vs, vo, ad, rd, ss⟩) (.slice p vs.length c) (.slice q ss.length d) wr HAT.out (by show vs.length ≤ 1000000; omega)
            have hbb : decide (ad = 1) = ((ad : Int) == 1) := by
              rcases (show ad = 0 ∨ ad = 1 by omega) with rfl | rfl <;> rfl
            have HSE : Hid (∀ b, hdL (toH ⟨pa, ht, ro, tx, pr, va, vs, vo, ad, rd, ss⟩) = b → seenH ⟨pa, ht, ro, tx, pr, va, vs, vo, ad, rd, ss⟩ = if b = true then (toH ⟨pa, ht, ro, tx, pr, va, vs, vo, ad, rd, ss⟩, 0) else (zHd, 4)) := Lib.hid (fun b e => by
              unfold seenH
              rw [e]
              simp only [had, true_and])
            have HBD := Lib.hid hbb
            have q1 : ¬ (1 : Int) < (ad : Int) := by omega
            clear had HAT
            obtain ⟨x0, x1, x2, x3, x4, x5, x6, x7, x8, x9, x10⟩ := RH.out.c11
            cases e : hdL (toH ⟨pa, ht, ro, tx, pr, va, vs, vo, ad, rd, ss⟩) with
            | false =>
              rw [e] at KR
              have HNO := Lib.hid (HSE.out _ e)
              dsimp only [hdV, hdc, toH] at KR
              rw [hbb] at KR
              have KR := Lib.hid KR
              clear hbb e HSE HBD
              go_upto_region 19 with (go_at_call 26; ((with_reducible refine (KR.out).mono ?_)); rintro e4 W7 ⟨rfl, hb⟩; replace HB1 := Lib.hid (HB1.out.trans (hb.mono HB1.out.size)); clear hb x0 x1 x2 x3 x4 x5 x6 x7 x8 x9 x10)
              clear KR RH OV2 OG
              replace R0 := Lib.hid (R0.out.below HB1.out HL.out)
              have HBZ := Lib.hid (HB.out.trans (HB1.out.mono HB.out.size))
              obtain ⟨x0, x1, x2, x3, x4, x5, x6, x7, x8, x9, x10⟩ := R0.out.c11; obtain ⟨f0, f1, f2, f3, f4, f5, f6, f7, f8, f9, f10⟩ := R0.out.f11
              go_wp2
              have RZ := Lib.hid (show RowAt (((((((((((W7.setCell ⟨w.heap.size, 0, none⟩ (.string ⟨#[]⟩)).setCell ⟨w.heap.size, 1, none⟩ (.int .u64 0)).setCell ⟨w.heap.size, 2, none⟩ (.string ⟨#[]⟩)).setCell ⟨w.heap.size, 3, none⟩ (.string ⟨#[]⟩)).setCell ⟨w.heap.size, 4, none⟩ (.string ⟨#[]⟩)).setCell ⟨w.heap.size, 5, none⟩ (.string ⟨#[]⟩)).setCell ⟨w.heap.size, 6, none⟩ (.slice none 0 0)).setCell ⟨w.heap.size, 7, none⟩ (.string ⟨#[]⟩)).setCell ⟨w.heap.size, 8, none⟩ (.bool false)).setCell ⟨w.heap.size, 9, none⟩ (.int .u64 0)).setCell ⟨w.heap.size, 10, none⟩ (.slice none 0 0)) w.heap.size #[.string ⟨#[]⟩, .int .u64 0, .string ⟨#[]⟩, .string ⟨#[]⟩, .string ⟨#[]⟩, .string ⟨#[]⟩, .slice none 0 0, .string ⟨#[]⟩, .bool false, .int .u64 0, .slice none 0 0] 26 from R0.out.set11 (.string ⟨#[]⟩) (.int .u64 0) (.string ⟨#[]⟩) (.string ⟨#[]⟩) (.string ⟨#[]⟩) (.string ⟨#[]⟩) (.slice none 0 0) (.string ⟨#[]⟩) (.bool false) (.int .u64 0) (.slice none 0 0))
              have HZ := Lib.hid (show Below w.heap.size w (((((((((((W7.setCell ⟨w.heap.size, 0, none⟩ (.string ⟨#[]⟩)).setCell ⟨w.heap.size, 1, none⟩ (.int .u64 0)).setCell ⟨w.heap.size, 2, none⟩ (.string ⟨#[]⟩)).setCell ⟨w.heap.size, 3, none⟩ (.string ⟨#[]⟩)).setCell ⟨w.heap.size, 4, none⟩ (.string ⟨#[]⟩)).setCell ⟨w.heap.size, 5, none⟩ (.string ⟨#[]⟩)).setCell ⟨w.heap.size, 6, none⟩ (.slice none 0 0)).setCell ⟨w.heap.size, 7, none⟩ (.string ⟨#[]⟩)).setCell ⟨w.heap.size, 8, none⟩ (.bool false)).setCell ⟨w.heap.size, 9, none⟩ (.int .u64 0)).setCell ⟨w.heap.size, 10, none⟩ (.slice none 0 0)) from below_set11 (o := 0) HBZ.out (Nat.le_refl _) (.string ⟨#[]⟩) (.int .u64 0) (.string ⟨#[]⟩) (.string ⟨#[]⟩) (.string ⟨#[]⟩) (.string ⟨#[]⟩) (.slice none 0 0) (.string ⟨#[]⟩) (.bool false) (.int .u64 0) (.slice none 0 0))
              generalize (((((((((((W7.setCell ⟨w.heap.size, 0, none⟩ (.string ⟨#[]⟩)).setCell ⟨w.heap.size, 1, none⟩ (.int .u64 0)).setCell ⟨w.heap.size, 2, none⟩ (.string ⟨#[]⟩)).setCell ⟨w.heap.size, 3, none⟩ (.string ⟨#[]⟩)).setCell ⟨w.heap.size, 4, none⟩ (.string ⟨#[]⟩)).setCell ⟨w.heap.size, 5, none⟩ (.string ⟨#[]⟩)).setCell ⟨w.heap.size, 6, none⟩ (.slice none 0 0)).setCell ⟨w.heap.size, 7, none⟩ (.string ⟨#[]⟩)).setCell ⟨w.heap.size, 8, none⟩ (.bool false)).setCell ⟨w.heap.size, 9, none⟩ (.int .u64 0)).setCell ⟨w.heap.size, 10, none⟩ (.slice none 0 0)) = WZ at *
              obtain ⟨k0, k1, k2, k3, k4, k5, k6, k7, k8, k9, k10⟩ := RZ.out.c11
              clear x0 f0 x1 f1 x2 f2 x3 f3 x4 f4 x5 f5 x6 f6 x7 f7 x8 f8 x9 f9 x10 f10 R0 RZ
              (try simp only [Exit.inBlock, Exit.then])
              refine bodyPost_ret (v := .tuple #[.agg #[.string ⟨#[]⟩, .int .u64 0, .string ⟨#[]⟩, .string ⟨#[]⟩, .string ⟨#[]⟩, .string ⟨#[]⟩, .slice none 0 0, .string ⟨#[]⟩, .bool false, .int .u64 0, .slice none 0 0], .int .i64 4]) (by simp [results, Try.results7, go_sem, k0, k1, k2, k3, k4, k5, k6, k7, k8, k9, k10]) rfl ?_
              have hr4 : r = (zHd, 4) := by rw [← HR.out]; exact HNO.out
              rw [hr4]
              exact ⟨.slice none 0 0, .slice none 0 0, rfl, zHd_at _, HZ.out⟩
            | true =>
              rw [e] at KR
              have HYE := Lib.hid (HSE.out _ e)
              dsimp only [hdV, hdc, toH] at KR
              rw [hbb] at KR
              have KR := Lib.hid KR
              clear hbb e HSE
              go_upto_region 20 with (go_at_call 26; ((with_reducible refine (KR.out).mono ?_)); rintro e4 W7 ⟨rfl, hb⟩; replace HB1 := Lib.hid (HB1.out.trans (hb.mono HB1.out.size)); replace RH := Lib.hid (RH.out.belowS hb); replace OV2 := Lib.hid (OwnE.below encS OV2.out hb (Nat.le_refl _)); replace OG := Lib.hid (OwnE.below encG OG.out hb (Nat.le_refl _)); clear hb x0 x1 x2 x3 x4 x5 x6 x7 x8 x9 x10)
              clear KR
              replace R0 := Lib.hid (R0.out.below HB1.out HL.out)
              have HBZ := Lib.hid (HB.out.trans (HB1.out.mono HB.out.size))
              obtain ⟨x0, x1, x2, x3, x4, x5, x6, x7, x8, x9, x10⟩ := R0.out.c11; obtain ⟨f0, f1, f2, f3, f4, f5, f6, f7, f8, f9, f10⟩ := R0.out.f11
              obtain ⟨y0, y1, y2, y3, y4, y5, y6, y7, y8, y9, y10⟩ := RH.out.c11
              go_wp2
              have RZ := Lib.hid (show RowAt (((((((((((W7.setCell ⟨w.heap.size, 0, none⟩ (.string pa)).setCell ⟨w.heap.size, 1, none⟩ (.int .u64 (ht : Int))).setCell ⟨w.heap.size, 2, none⟩ (.string ro)).setCell ⟨w.heap.size, 3, none⟩ (.string tx)).setCell ⟨w.heap.size, 4, none⟩ (.string pr)).setCell ⟨w.heap.size, 5, none⟩ (.string va)).setCell ⟨w.heap.size, 6, none⟩ (.slice p vs.length c)).setCell ⟨w.heap.size, 7, none⟩ (.string vo)).setCell ⟨w.heap.size, 8, none⟩ (.bool ((ad : Int) == 1))).setCell ⟨w.heap.size, 9, none⟩ (.int .u64 (rd : Int))).setCell ⟨w.heap.size, 10, none⟩ (.slice q ss.length d)) w.heap.size #[.string pa, .int .u64 (ht : Int), .string ro, .string tx, .string pr, .string va, .slice p vs.length c, .string vo, .bool ((ad : Int) == 1), .int .u64 (rd : Int), .slice q ss.length d] 26 from R0.out.set11 (.string pa) (.int .u64 (ht : Int)) (.string ro) (.string tx) (.string pr) (.string va) (.slice p vs.length c) (.string vo) (.bool ((ad : Int) == 1)) (.int .u64 (rd : Int)) (.slice q ss.length d))
              have HZ := Lib.hid (show Below w.heap.size w (((((((((((W7.setCell ⟨w.heap.size, 0, none⟩ (.string pa)).setCell ⟨w.heap.size, 1, none⟩ (.int .u64 (ht : Int))).setCell ⟨w.heap.size, 2, none⟩ (.string ro)).setCell ⟨w.heap.size, 3, none⟩ (.string tx)).setCell ⟨w.heap.size, 4, none⟩ (.string pr)).setCell ⟨w.heap.size, 5, none⟩ (.string va)).setCell ⟨w.heap.size, 6, none⟩ (.slice p vs.length c)).setCell ⟨w.heap.size, 7, none⟩ (.string vo)).setCell ⟨w.heap.size, 8, none⟩ (.bool ((ad : Int) == 1))).setCell ⟨w.heap.size, 9, none⟩ (.int .u64 (rd : Int))).setCell ⟨w.heap.size, 10, none⟩ (.slice q ss.length d)) from below_set11 (o := 0) HBZ.out (Nat.le_refl _) (.string pa) (.int .u64 (ht : Int)) (.string ro) (.string tx) (.string pr) (.string va) (.slice p vs.length c) (.string vo) (.bool ((ad : Int) == 1)) (.int .u64 (rd : Int)) (.slice q ss.length d))
              have hlv := HL.out
              have hlw := HWS.out
              have OVZ := Lib.hid (show OwnE encS 9 (((((((((((W7.setCell ⟨w.heap.size, 0, none⟩ (.string pa)).setCell ⟨w.heap.size, 1, none⟩ (.int .u64 (ht : Int))).setCell ⟨w.heap.size, 2, none⟩ (.string ro)).setCell ⟨w.heap.size, 3, none⟩ (.string tx)).setCell ⟨w.heap.size, 4, none⟩ (.string pr)).setCell ⟨w.heap.size, 5, none⟩ (.string va)).setCell ⟨w.heap.size, 6, none⟩ (.slice p vs.length c)).setCell ⟨w.heap.size, 7, none⟩ (.string vo)).setCell ⟨w.heap.size, 8, none⟩ (.bool ((ad : Int) == 1))).setCell ⟨w.heap.size, 9, none⟩ (.int .u64 (rd : Int))).setCell ⟨w.heap.size, 10, none⟩ (.slice q ss.length d)) (w1.heap.size + 1) (.slice p vs.length c) vs from OV2.out.setLow11 (by omega))
              have OGZ := Lib.hid (show OwnE encG 68 (((((((((((W7.setCell ⟨w.heap.size, 0, none⟩ (.string pa)).setCell ⟨w.heap.size, 1, none⟩ (.int .u64 (ht : Int))).setCell ⟨w.heap.size, 2, none⟩ (.string ro)).setCell ⟨w.heap.size, 3, none⟩ (.string tx)).setCell ⟨w.heap.size, 4, none⟩ (.string pr)).setCell ⟨w.heap.size, 5, none⟩ (.string va)).setCell ⟨w.heap.size, 6, none⟩ (.slice p vs.length c)).setCell ⟨w.heap.size, 7, none⟩ (.string vo)).setCell ⟨w.heap.size, 8, none⟩ (.bool ((ad : Int) == 1))).setCell ⟨w.heap.size, 9, none⟩ (.int .u64 (rd : Int))).setCell ⟨w.heap.size, 10, none⟩ (.slice q ss.length d)) W5.heap.size (.slice q ss.length d) (ss.map sgFrom) from OG.out.setLow11 (by omega))
              generalize (((((((((((W7.setCell ⟨w.heap.size, 0, none⟩ (.string pa)).setCell ⟨w.heap.size, 1, none⟩ (.int .u64 (ht : Int))).setCell ⟨w.heap.size, 2, none⟩ (.string ro)).setCell ⟨w.heap.size, 3, none⟩ (.string tx)).setCell ⟨w.heap.size, 4, none⟩ (.string pr)).setCell ⟨w.heap.size, 5, none⟩ (.string va)).setCell ⟨w.heap.size, 6, none⟩ (.slice p vs.length c)).setCell ⟨w.heap.size, 7, none⟩ (.string vo)).setCell ⟨w.heap.size, 8, none⟩ (.bool ((ad : Int) == 1))).setCell ⟨w.heap.size, 9, none⟩ (.int .u64 (rd : Int))).setCell ⟨w.heap.size, 10, none⟩ (.slice q ss.length d)) = WZ at *
              obtain ⟨k0, k1, k2, k3, k4, k5, k6, k7, k8, k9, k10⟩ := RZ.out.c11
              clear x0 f0 x1 f1 x2 f2 x3 f3 x4 f4 x5 f5 x6 f6 x7 f7 x8 f8 x9 f9 x10 f10 y0 y1 y2 y3 y4 y5 y6 y7 y8 y9 y10 R0 RZ OV2 OG RH
              (try simp only [Exit.inBlock, Exit.then])
              refine bodyPost_ret (v := .tuple #[.agg #[.string pa, .int .u64 (ht : Int), .string ro, .string tx, .string pr, .string va, .slice p vs.length c, .string vo, .bool ((ad : Int) == 1), .int .u64 (rd : Int), .slice q ss.length d], .int .i64 0]) (by simp [results, Try.results7, go_sem, k0, k1, k2, k3, k4, k5, k6, k7, k8, k9, k10]) rfl ?_
              have hr0 : r = (toH ⟨pa, ht, ro, tx, pr, va, vs, vo, ad, rd, ss⟩, 0) := by rw [← HR.out]; exact HYE.out
              rw [hr0]
              refine ⟨.slice p vs.length c, .slice q ss.length d, ?_, ⟨OwnE.row encS OVZ.out, OwnE.row encG OGZ.out, fun g hg => ?_⟩, HZ.out⟩
              · dsimp only [hdc, toH]
                rw [HBD.out]
              · obtain ⟨t, _, rfl⟩ := List.mem_map.1 hg
                exact sgFrom_ok t
          · have q1 : (1 : Int) < (ad : Int) := by omega
            have HSN : Hid (seenH ⟨pa, ht, ro, tx, pr, va, vs, vo, ad, rd, ss⟩ = (zHd, 4)) := Lib.hid (by unfold seenH; rw [if_neg (fun h => had h.1)])
            clear had HAT OV2 OG RH
            go_upto_region 19 with (fail)
            generalize hW7 : wr = W7 at *
            clear hW7
            replace R0 := Lib.hid (R0.out.below HB1.out HL.out)
            have HBZ := Lib.hid (HB.out.trans (HB1.out.mono HB.out.size))
            obtain ⟨x0, x1, x2, x3, x4, x5, x6, x7, x8, x9, x10⟩ := R0.out.c11; obtain ⟨f0, f1, f2, f3, f4, f5, f6, f7, f8, f9, f10⟩ := R0.out.f11
            go_wp2
            have RZ := Lib.hid (show RowAt (((((((((((W7.setCell ⟨w.heap.size, 0, none⟩ (.string ⟨#[]⟩)).setCell ⟨w.heap.size, 1, none⟩ (.int .u64 0)).setCell ⟨w.heap.size, 2, none⟩ (.string ⟨#[]⟩)).setCell ⟨w.heap.size, 3, none⟩ (.string ⟨#[]⟩)).setCell ⟨w.heap.size, 4, none⟩ (.string ⟨#[]⟩)).setCell ⟨w.heap.size, 5, none⟩ (.string ⟨#[]⟩)).setCell ⟨w.heap.size, 6, none⟩ (.slice none 0 0)).setCell ⟨w.heap.size, 7, none⟩ (.string ⟨#[]⟩)).setCell ⟨w.heap.size, 8, none⟩ (.bool false)).setCell ⟨w.heap.size, 9, none⟩ (.int .u64 0)).setCell ⟨w.heap.size, 10, none⟩ (.slice none 0 0)) w.heap.size #[.string ⟨#[]⟩, .int .u64 0, .string ⟨#[]⟩, .string ⟨#[]⟩, .string ⟨#[]⟩, .string ⟨#[]⟩, .slice none 0 0, .string ⟨#[]⟩, .bool false, .int .u64 0, .slice none 0 0] 26 from R0.out.set11 (.string ⟨#[]⟩) (.int .u64 0) (.string ⟨#[]⟩) (.string ⟨#[]⟩) (.string ⟨#[]⟩) (.string ⟨#[]⟩) (.slice none 0 0) (.string ⟨#[]⟩) (.bool false) (.int .u64 0) (.slice none 0 0))
            have HZ := Lib.hid (show Below w.heap.size w (((((((((((W7.setCell ⟨w.heap.size, 0, none⟩ (.string ⟨#[]⟩)).setCell ⟨w.heap.size, 1, none⟩ (.int .u64 0)).setCell ⟨w.heap.size, 2, none⟩ (.string ⟨#[]⟩)).setCell ⟨w.heap.size, 3, none⟩ (.string ⟨#[]⟩)).setCell ⟨w.heap.size, 4, none⟩ (.string ⟨#[]⟩)).setCell ⟨w.heap.size, 5, none⟩ (.string ⟨#[]⟩)).setCell ⟨w.heap.size, 6, none⟩ (.slice none 0 0)).setCell ⟨w.heap.size, 7, none⟩ (.string ⟨#[]⟩)).setCell ⟨w.heap.size, 8, none⟩ (.bool false)).setCell ⟨w.heap.size, 9, none⟩ (.int .u64 0)).setCell ⟨w.heap.size, 10, none⟩ (.slice none 0 0)) from below_set11 (o := 0) HBZ.out (Nat.le_refl _) (.string ⟨#[]⟩) (.int .u64 0) (.string ⟨#[]⟩) (.string ⟨#[]⟩) (.string ⟨#[]⟩) (.string ⟨#[]⟩) (.slice none 0 0) (.string ⟨#[]⟩) (.bool false) (.int .u64 0) (.slice none 0 0))
            generalize (((((((((((W7.setCell ⟨w.heap.size, 0, none⟩ (.string ⟨#[]⟩)).setCell ⟨w.heap.size, 1, none⟩ (.int .u64 0)).setCell ⟨w.heap.size, 2, none⟩ (.string ⟨#[]⟩)).setCell ⟨w.heap.size, 3, none⟩ (.string ⟨#[]⟩)).setCell ⟨w.heap.size, 4, none⟩ (.string ⟨#[]⟩)).setCell ⟨w.heap.size, 5, none⟩ (.string ⟨#[]⟩)).setCell ⟨w.heap.size, 6, none⟩ (.slice none 0 0)).setCell ⟨w.heap.size, 7, none⟩ (.string ⟨#[]⟩)).setCell ⟨w.heap.size, 8, none⟩ (.bool false)).setCell ⟨w.heap.size, 9, none⟩ (.int .u64 0)).setCell ⟨w.heap.size, 10, none⟩ (.slice none 0 0)) = WZ at *
            obtain ⟨k0, k1, k2, k3, k4, k5, k6, k7, k8, k9, k10⟩ := RZ.out.c11
            clear x0 f0 x1 f1 x2 f2 x3 f3 x4 f4 x5 f5 x6 f6 x7 f7 x8 f8 x9 f9 x10 f10 R0 RZ
            (try simp only [Exit.inBlock, Exit.then])
            refine bodyPost_ret (v := .tuple #[.agg #[.string ⟨#[]⟩, .int .u64 0, .string ⟨#[]⟩, .string ⟨#[]⟩, .string ⟨#[]⟩, .string ⟨#[]⟩, .slice none 0 0, .string ⟨#[]⟩, .bool false, .int .u64 0, .slice none 0 0], .int .i64 4]) (by simp [results, Try.results7, go_sem, k0, k1, k2, k3, k4, k5, k6, k7, k8, k9, k10]) rfl ?_
            have hr4 : r = (zHd, 4) := by rw [← HR.out]; exact HSN.out
            rw [hr4]
            exact ⟨.slice none 0 0, .slice none 0 0, rfl, zHd_at _, HZ.out⟩
end Go.Proofs.Ytefmlbckbhlgdaa

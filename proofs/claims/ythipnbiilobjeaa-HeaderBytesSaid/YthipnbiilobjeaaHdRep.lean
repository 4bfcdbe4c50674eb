/- Header: ref17.Like. Header, the plain side: two headers that may be have the same bytes just if they are the same. Headers that come in. -/
import Derived.Test.YthipnbiilobjeaaSig
import Derived.Deep.Slices
import Derived.Lib.SmallJoins
import Derived.OpenShut
import Derived.Laws.IdiomArrays
namespace Go.Proofs.Ythipnbiilobjeaa
open Go.RowKit Go.Shelf
set_option maxRecDepth 100000

noncomputable def likeH (h k : Hd) : Bool := @decide (h = k) (Classical.propDecidable _)
theorem likeH_yes {h k : Hd} (e : h = k) : likeH h k = true := @decide_eq_true _ (Classical.propDecidable _) e
theorem likeH_no {h k : Hd} (e : ¬ h = k) : likeH h k = false := @decide_eq_false _ (Classical.propDecidable _) e

set_option maxHeartbeats 8000000 in
theorem hlike_any (h k : Hd) (sv gv sv2 gv2 : Value) (w : World) (hh : HdAt w h sv gv) (hk : HdAt w k sv2 gv2) : Calls Try.prog 19 #[.agg (hdc h sv gv), .agg (hdc k sv2 gv2)] w fun e w' => e = .returned (.bool (likeH h k)) ∧ Below w.heap.size w w' := by
  have HY := Lib.hid (@likeH_yes h k)
  have HN := Lib.hid (@likeH_no h k)
  generalize likeH h k = R at *
  obtain ⟨pS, cS, rfl, s1, s2⟩ := RowE.shape encS hh.1
  obtain ⟨pG, cG, rfl, s3, s4⟩ := RowE.shape encG hh.2.1
  obtain ⟨pS2, cS2, rfl, s5, s6⟩ := RowE.shape encS hk.1
  obtain ⟨pG2, cG2, rfl, s7, s8⟩ := RowE.shape encG hk.2.1
  have HS := Lib.hid hh.1
  have HG := Lib.hid hh.2.1
  have HS2 := Lib.hid hk.1
  have HG2 := Lib.hid hk.2.1
  clear hh hk
  obtain ⟨pa, ht, ro, tx, pr, va, val, vo, ad, rd, se⟩ := h
  obtain ⟨pa2, ht2, ro2, tx2, pr2, va2, val2, vo2, ad2, rd2, se2⟩ := k
  simp only at s1 s3 s5 s7 HS HG HS2 HG2
  unfold maxLen at s2 s4 s6 s8
  have R1 := Lib.hid ((RowAt.new w #[.string pa, .int .u64 ht, .string ro, .string tx, .string pr, .string va, .slice pS val.length cS, .string vo, .bool ad, .int .u64 rd, .slice pG se.length cG] 36).alloc (.cells #[.string pa2, .int .u64 ht2, .string ro2, .string tx2, .string pr2, .string va2, .slice pS2 val2.length cS2, .string vo2, .bool ad2, .int .u64 rd2, .slice pG2 se2.length cG2] 36))
  have R2 := Lib.hid (RowAt.new' (w.alloc (.cells #[.string pa, .int .u64 ht, .string ro, .string tx, .string pr, .string va, .slice pS val.length cS, .string vo, .bool ad, .int .u64 rd, .slice pG se.length cG] 36)) #[.string pa2, .int .u64 ht2, .string ro2, .string tx2, .string pr2, .string va2, .slice pS2 val2.length cS2, .string vo2, .bool ad2, .int .u64 rd2, .slice pG2 se2.length cG2] 36 (k := w.heap.size + 1) (by simp))
  have HB := Lib.hid (bel2 w (.cells #[.string pa, .int .u64 ht, .string ro, .string tx, .string pr, .string va, .slice pS val.length cS, .string vo, .bool ad, .int .u64 rd, .slice pG se.length cG] 36) (.cells #[.string pa2, .int .u64 ht2, .string ro2, .string tx2, .string pr2, .string va2, .slice pS2 val2.length cS2, .string vo2, .bool ad2, .int .u64 rd2, .slice pG2 se2.length cG2] 36))
  obtain ⟨x0, x1, x2, x3, x4, x5, x6, x7, x8, x9, x10⟩ := R1.out.c11
  obtain ⟨y0, y1, y2, y3, y4, y5, y6, y7, y8, y9, y10⟩ := R2.out.c11
  by_cases e0 : pa = pa2
  · subst e0
    by_cases e1 : ht = ht2
    · subst e1
      by_cases e2 : ro = ro2
      · subst e2
        by_cases e3 : tx = tx2
        · subst e3
          by_cases e4 : pr = pr2
          · subst e4
            by_cases e5 : va = va2
            · subst e5
              by_cases e6 : vo = vo2
              · subst e6
                by_cases e7 : ad = ad2
                · subst e7
                  by_cases e8 : rd = rd2
                  · subst e8
                    by_cases l1 : val.length = val2.length
                    · by_cases l2 : se.length = se2.length
                      · have hyes : val = val2 → se = se2 → R = true := fun e1 e2 => HY.out (by rw [e1, e2])
                        have hno1 : val ≠ val2 → R = false := fun e => HN.out (fun h => e (by injection h))
                        have hno2 : se ≠ se2 → R = false := fun e => HN.out (fun h => e (by injection h))
                        have HY2 := Lib.hid hyes
                        have HN1 := Lib.hid hno1
                        have HN2 := Lib.hid hno2
                        clear HY HN hyes hno1 hno2
                        rw [← l1] at s5 HS2 R1 R2 HB y6 ⊢
                        rw [← l2] at s7 HG2 R1 R2 HB y10 ⊢
                        have L1 := Lib.hid l1
                        have L2 := Lib.hid l2
                        clear l1 l2
                        go_enter Try.func19, Try.ntmps19
                        go_upto_region 6 with (fail)
                        clear x0 x1 x2 x3 x4 x5 x6 x7 x8 x9 x10 y0 y1 y2 y3 y4 y5 y6 y7 y8 y9 y10
                        generalize (w.alloc (.cells #[.string pa, .int .u64 ht, .string ro, .string tx, .string pr, .string va, .slice pS val.length cS, .string vo, .bool ad, .int .u64 rd, .slice pG se.length cG] 36)).alloc (.cells #[.string pa, .int .u64 ht, .string ro, .string tx, .string pr, .string va, .slice pS2 val.length cS2, .string vo, .bool ad, .int .u64 rd, .slice pG2 se.length cG2] 36) = W at *
                        go_loopw [87] (fun s87 wr => ∃ (i : Nat), i ≤ val.length ∧ s87 = .int .i64 i ∧ Hid (val.take i = val2.take i) ∧ Hid (Below W.heap.size W wr)) (fun s _ => val.length - (intOf s).toNat)
                        case atStart => exact ⟨0, Nat.zero_le _, rfl, Lib.hid (by simp), Lib.hid (Below.refl _ _)⟩
                        case round =>
                          obtain ⟨i, hi, rfl, hp, hb⟩ := hrel
                          have HP := Lib.hid hp.out
                          have HBW := Lib.hid hb.out
                          clear hp hb
                          by_cases hlt : i < val.length
                          · obtain ⟨x, hx⟩ : ∃ x, val[i]? = some x := ⟨_, List.getElem?_eq_getElem hlt⟩
                            obtain ⟨y, hy⟩ : ∃ y, val2[i]? = some y := ⟨_, List.getElem?_eq_getElem (by have := L1.out; omega)⟩
                            obtain ⟨-, -, -, hat⟩ := RowE.atS HS.out
                            obtain ⟨a, rfl, ha⟩ := hat i x hx
                            obtain ⟨-, -, -, hat2⟩ := RowE.atS (show RowE encS w (.slice pS2 val.length cS2) val2 from HS2.out)
                            obtain ⟨b, rfl, hb2⟩ := hat2 i y hy
                            have m1 : ∀ u : Later wr, u.w.cell? (a.add i) = some (.string x) := fun u => by rw [u.below.cell (by have := HBW.out.size; have := HB.out.size; have := block_lt_of_cell ha; omega), HBW.out.cell (by have := HB.out.size; have := block_lt_of_cell ha; omega), HB.out.cell (block_lt_of_cell ha)]; exact ha
                            have m2 : ∀ u : Later wr, u.w.cell? (b.add i) = some (.string y) := fun u => by rw [u.below.cell (by have := HBW.out.size; have := HB.out.size; have := block_lt_of_cell hb2; omega), HBW.out.cell (by have := HB.out.size; have := block_lt_of_cell hb2; omega), HB.out.cell (block_lt_of_cell hb2)]; exact hb2
                            have p1 : ∀ u : Later wr, u.w.cell? ⟨w.heap.size, 6, none⟩ = some (.slice (some a) val.length cS) := fun u => ((R1.out.belowS HBW.out).later u).cell 6
                            have p2 : ∀ u : Later wr, u.w.cell? ⟨w.heap.size + 1, 6, none⟩ = some (.slice (some b) val.length cS2) := fun u => ((R2.out.belowS HBW.out).later u).cell 6
                            have HNX : Hid (x ≠ y → R = false) := Lib.hid (fun e => HN1.out (fun h => e (by rw [h, hy] at hx; injection hx with hx; exact hx.symm)))
                            have HPX : Hid (x = y → val.take (i + 1) = val2.take (i + 1)) := Lib.hid (fun e => by rw [List.take_add_one, List.take_add_one, hx, hy, HP.out, e])
                            clear hat hat2 ha hb2 hx hy
                            by_cases e : x = y
                            · have HP2 := Lib.hid (HPX.out e)
                              subst e
                              clear HPX HNX
                              go_upto_region 8 with (fail)
                              (refine region_later mix ?hB ?_; case hB => kernel_rfl); (repeat (first | go_big_quiet_step ((fail)) | quiet_step ((fail)))); (refine wpQuiet_nil ?_; rintro _ ⟨u, rfl⟩)
                              clear m1 m2 p1 p2
                              have HBX := Lib.hid (HBW.out.trans (u.below.mono HBW.out.size))
                              clear HBW
                              generalize u.w = wu at *
                              go_wp2
                              exact ⟨⟨i + 1, by omega, by simp, HP2, HBX⟩, by simp [intOf]; omega⟩
                            · have hno := Lib.hid (HNX.out e)
                              have q : (x.toList == y.toList) = false := beq_eq_false_iff_ne.2 (fun h => e (by rw [toList_bl, toList_bl] at h; exact bl_inj h))
                              clear e HPX HNX
                              go_upto_region 8 with (fail)
                              (refine region_later mix ?hB ?_; case hB => kernel_rfl); (repeat (first | go_big_quiet_step ((fail)) | quiet_step ((fail)))); (refine wpQuiet_nil ?_; rintro _ ⟨u, rfl⟩)
                              clear m1 m2 p1 p2
                              have HBX := Lib.hid (HBW.out.trans (u.below.mono HBW.out.size))
                              clear HBW
                              generalize u.w = wu at *
                              go_wp2
                              go_ret
                              exact ⟨by rw [hno.out]; rfl, HB.out.trans (HBX.out.mono HB.out.size)⟩
                          · obtain rfl : i = val.length := by omega
                            have hval : val = val2 := by have := HP.out; rwa [List.take_length, L1.out, List.take_length] at this
                            have HVE := Lib.hid hval
                            clear hval HP hlt hi
                            have x10 : wr.cell? ⟨w.heap.size, 10, none⟩ = some (.slice pG se.length cG) := (R1.out.belowS HBW.out).cell 10
                            go_upto_region 12 with (fail)
                            clear x10
                            go_loopw [105] (fun s105 wr => ∃ (i : Nat), i ≤ se.length ∧ s105 = .int .i64 i ∧ Hid (se.take i = se2.take i) ∧ Hid (Below W.heap.size W wr)) (fun s _ => se.length - (intOf s).toNat)
                            case atStart => exact ⟨0, Nat.zero_le _, rfl, Lib.hid (by simp), HBW⟩
                            case round =>
                              clear HBW
                              obtain ⟨i, hi, rfl, hp, hb⟩ := hrel
                              have HP := Lib.hid hp.out
                              have HBW := Lib.hid hb.out
                              clear hp hb
                              by_cases hlt : i < se.length
                              · obtain ⟨x, hx⟩ : ∃ x, se[i]? = some x := ⟨_, List.getElem?_eq_getElem hlt⟩
                                obtain ⟨y, hy⟩ : ∃ y, se2[i]? = some y := ⟨_, List.getElem?_eq_getElem (by have := L2.out; omega)⟩
                                obtain ⟨a, rfl, ha⟩ := HG.out.atG i x hx
                                obtain ⟨b, rfl, hb2⟩ := (show RowE encG w (.slice pG2 se.length cG2) se2 from HG2.out).atG i y hy
                                have keyu : ∀ {q : Addr} {v : Value}, w.cell? q = some v → ∀ u : Later wr, u.w.cell? q = some v := fun ha u => by rw [u.below.cell (by have := HBW.out.size; have := HB.out.size; have := block_lt_of_cell ha; omega), HBW.out.cell (by have := HB.out.size; have := block_lt_of_cell ha; omega), HB.out.cell (block_lt_of_cell ha)]; exact ha
                                have HNX : Hid (x ≠ y → R = false) := Lib.hid (fun e => HN2.out (fun h => e (by rw [h, hy] at hx; injection hx with hx; exact hx.symm)))
                                have HPX : Hid (x = y → se.take (i + 1) = se2.take (i + 1)) := Lib.hid (fun e => by rw [List.take_add_one, List.take_add_one, hx, hy, HP.out, e])
                                have p1 : ∀ u : Later wr, u.w.cell? ⟨w.heap.size, 10, none⟩ = some (.slice (some a) se.length cG) := fun u => ((R1.out.belowS HBW.out).later u).cell 10
                                have p2 : ∀ u : Later wr, u.w.cell? ⟨w.heap.size + 1, 10, none⟩ = some (.slice (some b) se.length cG2) := fun u => ((R2.out.belowS HBW.out).later u).cell 10
                                clear hx hy
                                obtain ⟨⟨r0, r1, r2, r3⟩, ⟨t0, t1, t2, t3⟩, v⟩ := x
                                obtain ⟨⟨r0', r1', r2', r3'⟩, ⟨t0', t1', t2', t3'⟩, v'⟩ := y
                                have m0 : ∀ u : Later wr, u.w.cell? (a.add (i * 9)) = some (.int .u64 r0) := fun u => keyu (ha 0 _ rfl) u
                                have m1 : ∀ u : Later wr, u.w.cell? ⟨(a.add (i * 9)).block, (a.add (i * 9)).off + 1, none⟩ = some (.int .u64 r1) := fun u => keyu (ha 1 _ rfl) u
                                have m2 : ∀ u : Later wr, u.w.cell? ⟨(a.add (i * 9)).block, (a.add (i * 9)).off + 2, none⟩ = some (.int .u64 r2) := fun u => keyu (ha 2 _ rfl) u
                                have m3 : ∀ u : Later wr, u.w.cell? ⟨(a.add (i * 9)).block, (a.add (i * 9)).off + 3, none⟩ = some (.int .u64 r3) := fun u => keyu (ha 3 _ rfl) u
                                have m4 : ∀ u : Later wr, u.w.cell? ⟨(a.add (i * 9)).block, (a.add (i * 9)).off + 4, none⟩ = some (.int .u64 t0) := fun u => keyu (ha 4 _ rfl) u
                                have m5 : ∀ u : Later wr, u.w.cell? ⟨(a.add (i * 9)).block, (a.add (i * 9)).off + 5, none⟩ = some (.int .u64 t1) := fun u => keyu (ha 5 _ rfl) u
                                have m6 : ∀ u : Later wr, u.w.cell? ⟨(a.add (i * 9)).block, (a.add (i * 9)).off + 6, none⟩ = some (.int .u64 t2) := fun u => keyu (ha 6 _ rfl) u
                                have m7 : ∀ u : Later wr, u.w.cell? ⟨(a.add (i * 9)).block, (a.add (i * 9)).off + 7, none⟩ = some (.int .u64 t3) := fun u => keyu (ha 7 _ rfl) u
                                have m8 : ∀ u : Later wr, u.w.cell? ⟨(a.add (i * 9)).block, (a.add (i * 9)).off + 8, none⟩ = some (.int .i64 v) := fun u => keyu (ha 8 _ rfl) u
                                have n0 : ∀ u : Later wr, u.w.cell? (b.add (i * 9)) = some (.int .u64 r0') := fun u => keyu (hb2 0 _ rfl) u
                                have n1 : ∀ u : Later wr, u.w.cell? ⟨(b.add (i * 9)).block, (b.add (i * 9)).off + 1, none⟩ = some (.int .u64 r1') := fun u => keyu (hb2 1 _ rfl) u
                                have n2 : ∀ u : Later wr, u.w.cell? ⟨(b.add (i * 9)).block, (b.add (i * 9)).off + 2, none⟩ = some (.int .u64 r2') := fun u => keyu (hb2 2 _ rfl) u
                                have n3 : ∀ u : Later wr, u.w.cell? ⟨(b.add (i * 9)).block, (b.add (i * 9)).off + 3, none⟩ = some (.int .u64 r3') := fun u => keyu (hb2 3 _ rfl) u
                                have n4 : ∀ u : Later wr, u.w.cell? ⟨(b.add (i * 9)).block, (b.add (i * 9)).off + 4, none⟩ = some (.int .u64 t0') := fun u => keyu (hb2 4 _ rfl) u
                                have n5 : ∀ u : Later wr, u.w.cell? ⟨(b.add (i * 9)).block, (b.add (i * 9)).off + 5, none⟩ = some (.int .u64 t1') := fun u => keyu (hb2 5 _ rfl) u
                                have n6 : ∀ u : Later wr, u.w.cell? ⟨(b.add (i * 9)).block, (b.add (i * 9)).off + 6, none⟩ = some (.int .u64 t2') := fun u => keyu (hb2 6 _ rfl) u
                                have n7 : ∀ u : Later wr, u.w.cell? ⟨(b.add (i * 9)).block, (b.add (i * 9)).off + 7, none⟩ = some (.int .u64 t3') := fun u => keyu (hb2 7 _ rfl) u
                                have n8 : ∀ u : Later wr, u.w.cell? ⟨(b.add (i * 9)).block, (b.add (i * 9)).off + 8, none⟩ = some (.int .i64 v') := fun u => keyu (hb2 8 _ rfl) u
                                clear keyu ha hb2
                                have hq := fun w => eqSig_run ((r0, r1, r2, r3), (t0, t1, t2, t3), v) ((r0', r1', r2', r3'), (t0', t1', t2', t3'), v') w
                                by_cases e : (((r0, r1, r2, r3), (t0, t1, t2, t3), v) : Sg) = ((r0', r1', r2', r3'), (t0', t1', t2', t3'), v')
                                · have HP2 := Lib.hid (HPX.out e)
                                  rw [decide_eq_true e] at hq
                                  clear HPX HNX e
                                  go_upto_region 14 with (fail)
                                  (refine region_later mix ?hB ?_; case hB => kernel_rfl); (repeat (first | go_big_quiet_step ((fail)) | quiet_step ((fail)))); (refine wpQuiet_nil ?_; rintro _ ⟨u, rfl⟩)
                                  clear m0 m1 m2 m3 m4 m5 m6 m7 m8 n0 n1 n2 n3 n4 n5 n6 n7 n8 p1 p2 hq
                                  have HBX := Lib.hid (HBW.out.trans (u.below.mono HBW.out.size))
                                  clear HBW
                                  generalize u.w = wu at *
                                  go_wp2
                                  exact ⟨⟨i + 1, by omega, by simp, HP2, HBX⟩, by simp [intOf]; omega⟩
                                · have hno := Lib.hid (HNX.out e)
                                  rw [decide_eq_false e] at hq
                                  clear HPX HNX e
                                  go_upto_region 14 with (fail)
                                  (refine region_later mix ?hB ?_; case hB => kernel_rfl); (repeat (first | go_big_quiet_step ((fail)) | quiet_step ((fail)))); (refine wpQuiet_nil ?_; rintro _ ⟨u, rfl⟩)
                                  clear m0 m1 m2 m3 m4 m5 m6 m7 m8 n0 n1 n2 n3 n4 n5 n6 n7 n8 p1 p2 hq
                                  have HBX := Lib.hid (HBW.out.trans (u.below.mono HBW.out.size))
                                  clear HBW
                                  generalize u.w = wu at *
                                  go_wp2
                                  go_ret
                                  exact ⟨by rw [hno.out]; rfl, HB.out.trans (HBX.out.mono HB.out.size)⟩
                              · obtain rfl : i = se.length := by omega
                                have hse : se = se2 := by have := HP.out; rwa [List.take_length, L2.out, List.take_length] at this
                                have hr := HY2.out HVE.out hse
                                clear hse HP hlt hi
                                go_wp2
                                go_ret
                                exact ⟨by first | rfl | (rw [hr]; rfl), HB.out.trans (HBW.out.mono HB.out.size)⟩
                      · have hno := HN.out (fun h => l2 (by injection h with _ _ _ _ _ _ _ _ _ _ h; rw [h]))
                        have q : ((se.length : Int) != (se2.length : Int)) = true := bne_iff_ne.2 (by omega)
                        rw [← l1] at R1 R2 HB y6 ⊢
                        clear l2 l1
                        go_enter Try.func19, Try.ntmps19
                        go_wp2
                        go_ret
                        exact ⟨by first | rfl | (rw [hno]; rfl), HB.out⟩
                    · have hno := HN.out (fun h => l1 (by injection h with _ _ _ _ _ _ h; rw [h]))
                      have q : ((val.length : Int) != (val2.length : Int)) = true := bne_iff_ne.2 (by omega)
                      clear l1
                      go_enter Try.func19, Try.ntmps19
                      go_wp2
                      go_ret
                      exact ⟨by first | rfl | (rw [hno]; rfl), HB.out⟩
                  · have hno := HN.out (fun h => e8 (by injection h))
                    have q : (rd == rd2) = false := by simpa using e8
                    have q' : (rd != rd2) = true := by simpa using e8
                    clear e8
                    go_enter Try.func19, Try.ntmps19
                    go_wp2
                    go_ret
                    exact ⟨by first | rfl | (rw [hno]; rfl), HB.out⟩
                · have hno := HN.out (fun h => e7 (by injection h))
                  have q : (ad == ad2) = false := by simpa using e7
                  have q' : (ad != ad2) = true := by simpa using e7
                  clear e7
                  go_enter Try.func19, Try.ntmps19
                  go_wp2
                  go_ret
                  exact ⟨by first | rfl | (rw [hno]; rfl), HB.out⟩
              · have hno := HN.out (fun h => e6 (by injection h))
                have q : (vo.toList == vo2.toList) = false := beq_eq_false_iff_ne.2 (fun h => e6 (by rw [toList_bl, toList_bl] at h; exact bl_inj h))
                clear e6
                go_enter Try.func19, Try.ntmps19
                go_wp2
                go_ret
                exact ⟨by first | rfl | (rw [hno]; rfl), HB.out⟩
            · have hno := HN.out (fun h => e5 (by injection h))
              have q : (va.toList == va2.toList) = false := beq_eq_false_iff_ne.2 (fun h => e5 (by rw [toList_bl, toList_bl] at h; exact bl_inj h))
              clear e5
              go_enter Try.func19, Try.ntmps19
              go_wp2
              go_ret
              exact ⟨by first | rfl | (rw [hno]; rfl), HB.out⟩
          · have hno := HN.out (fun h => e4 (by injection h))
            have q : (pr.toList == pr2.toList) = false := beq_eq_false_iff_ne.2 (fun h => e4 (by rw [toList_bl, toList_bl] at h; exact bl_inj h))
            clear e4
            go_enter Try.func19, Try.ntmps19
            go_wp2
            go_ret
            exact ⟨by first | rfl | (rw [hno]; rfl), HB.out⟩
        · have hno := HN.out (fun h => e3 (by injection h))
          have q : (tx.toList == tx2.toList) = false := beq_eq_false_iff_ne.2 (fun h => e3 (by rw [toList_bl, toList_bl] at h; exact bl_inj h))
          clear e3
          go_enter Try.func19, Try.ntmps19
          go_wp2
          go_ret
          exact ⟨by first | rfl | (rw [hno]; rfl), HB.out⟩
      · have hno := HN.out (fun h => e2 (by injection h))
        have q : (ro.toList == ro2.toList) = false := beq_eq_false_iff_ne.2 (fun h => e2 (by rw [toList_bl, toList_bl] at h; exact bl_inj h))
        clear e2
        go_enter Try.func19, Try.ntmps19
        go_wp2
        go_ret
        exact ⟨by first | rfl | (rw [hno]; rfl), HB.out⟩
    · have hno := HN.out (fun h => e1 (by injection h))
      have q : (ht == ht2) = false := by simpa using e1
      have q' : (ht != ht2) = true := by simpa using e1
      clear e1
      go_enter Try.func19, Try.ntmps19
      go_wp2
      go_ret
      exact ⟨by first | rfl | (rw [hno]; rfl), HB.out⟩
  · have hno := HN.out (fun h => e0 (by injection h))
    have q : (pa.toList == pa2.toList) = false := beq_eq_false_iff_ne.2 (fun h => e0 (by rw [toList_bl, toList_bl] at h; exact bl_inj h))
    clear e0
    go_enter Try.func19, Try.ntmps19
    go_wp2
    go_ret
    exact ⟨by first | rfl | (rw [hno]; rfl), HB.out⟩
end Go.Proofs.Ythipnbiilobjeaa

namespace Go.Proofs.Ythipnbiilobjeaa
open Go.RowKit
set_option maxRecDepth 100000

theorem word_eq {x y : Int} (hx : WordOk x) (hy : WordOk y) (h0 : x % 256 = y % 256) (h1 : x / 256 % 256 = y / 256 % 256) (h2 : x / 65536 % 256 = y / 65536 % 256) (h3 : x / 16777216 % 256 = y / 16777216 % 256) (h4 : x / 4294967296 % 256 = y / 4294967296 % 256)
    (h5 : x / 1099511627776 % 256 = y / 1099511627776 % 256) (h6 : x / 281474976710656 % 256 = y / 281474976710656 % 256) (h7 : x / 72057594037927936 % 256 = y / 72057594037927936 % 256) : x = y := by
  obtain ⟨a1, a2⟩ := hx
  obtain ⟨b1, b2⟩ := hy
  have k7 : x / 72057594037927936 = y / 72057594037927936 := by omega
  have k6 : x / 281474976710656 = y / 281474976710656 := by omega
  have k5 : x / 1099511627776 = y / 1099511627776 := by omega
  have k4 : x / 4294967296 = y / 4294967296 := by omega
  have k3 : x / 16777216 = y / 16777216 := by omega
  have k2 : x / 65536 = y / 65536 := by omega
  have k1 : x / 256 = y / 256 := by omega
  omega

theorem byte_eq {x y : Int} (_ : WordOk x) (_ : WordOk y) (d : Int) (_ : 0 < d) (h : UInt8.ofNat (x / d % 256).toNat = UInt8.ofNat (y / d % 256).toNat) : x / d % 256 = y / d % 256 := by
  have h' := congrArg UInt8.toNat h
  rw [UInt8.toNat_ofNat', UInt8.toNat_ofNat'] at h'
  have p1 : 0 ≤ x / d % 256 := Int.emod_nonneg _ (by omega)
  have p2 : x / d % 256 < 256 := Int.emod_lt_of_pos _ (by omega)
  have p3 : 0 ≤ y / d % 256 := Int.emod_nonneg _ (by omega)
  have p4 : y / d % 256 < 256 := Int.emod_lt_of_pos _ (by omega)
  omega

theorem bytesU_inj {a b : U4} (ha : a.ok) (hb : b.ok) (h : bytesU a = bytesU b) : a = b := by
  have hl : (List.range 32).map (byteAt a) = (List.range 32).map (byteAt b) := by
    have := congrArg (fun s : ByteArray => s.data.toList) h
    simpa [bytesU, fillL_full] using this
  have hk : ∀ k, k < 32 → byteAt a k = byteAt b k := fun k hk => by
    have := congrArg (fun l : List UInt8 => l[k]?) hl
    simpa [hk] using this
  obtain ⟨a0, a1, a2, a3⟩ := a
  obtain ⟨b0, b1, b2, b3⟩ := b
  obtain ⟨u0, u1, u2, u3⟩ := ha
  obtain ⟨v0, v1, v2, v3⟩ := hb
  simp only at u0 u1 u2 u3 v0 v1 v2 v3
  have g : ∀ (j : Nat) (x y : Int), WordOk x → WordOk y → (∀ m, m < 8 → UInt8.ofNat (x / 2 ^ (8 * m) % 256).toNat = UInt8.ofNat (y / 2 ^ (8 * m) % 256).toNat) → x = y := fun _ x y hx hy hm => by
    refine word_eq hx hy ?_ ?_ ?_ ?_ ?_ ?_ ?_ ?_
    · have := byte_eq hx hy 1 (by omega) (by simpa using hm 0 (by omega)); simpa using this
    · exact byte_eq hx hy 256 (by omega) (by simpa using hm 1 (by omega))
    · exact byte_eq hx hy 65536 (by omega) (by simpa using hm 2 (by omega))
    · exact byte_eq hx hy 16777216 (by omega) (by simpa using hm 3 (by omega))
    · exact byte_eq hx hy 4294967296 (by omega) (by simpa using hm 4 (by omega))
    · exact byte_eq hx hy 1099511627776 (by omega) (by simpa using hm 5 (by omega))
    · exact byte_eq hx hy 281474976710656 (by omega) (by simpa using hm 6 (by omega))
    · exact byte_eq hx hy 72057594037927936 (by omega) (by simpa using hm 7 (by omega))
  have e0 := g 0 a0 b0 u0 v0 fun m hm => by
    have := hk (31 - m) (by omega)
    unfold byteAt at this
    rw [show (31 - (31 - m)) / 8 = 0 by omega, show (31 - (31 - m)) % 8 = m by omega] at this
    exact this
  have e1 := g 1 a1 b1 u1 v1 fun m hm => by
    have := hk (23 - m) (by omega)
    unfold byteAt at this
    rw [show (31 - (23 - m)) / 8 = 1 by omega, show (31 - (23 - m)) % 8 = m by omega] at this
    exact this
  have e2 := g 2 a2 b2 u2 v2 fun m hm => by
    have := hk (15 - m) (by omega)
    unfold byteAt at this
    rw [show (31 - (15 - m)) / 8 = 2 by omega, show (31 - (15 - m)) % 8 = m by omega] at this
    exact this
  have e3 := g 3 a3 b3 u3 v3 fun m hm => by
    have := hk (7 - m) (by omega)
    unfold byteAt at this
    rw [show (31 - (7 - m)) / 8 = 3 by omega, show (31 - (7 - m)) % 8 = m by omega] at this
    exact this
  rw [e0, e1, e2, e3]

theorem bl_app (a b : ByteArray) : bl (a ++ b) = bl a ++ bl b := by
  show (a ++ b).data.toList = a.data.toList ++ b.data.toList
  rw [ByteArray.data_append, Array.toList_append]
theorem sealB_inj {a b : Sg} (ha : a.ok) (hb : b.ok) (ka : sigOk a = true) (kb : sigOk b = true) (h : sealB a = sealB b) : a = b := by
  unfold sealB at h
  rw [if_pos ka, if_pos kb] at h
  unfold sigBytes at h
  have h' := congrArg bl h
  rw [bl_app, bl_app, bl_app, bl_app] at h'
  have z1 : (bl (bytesU a.1)).length = (bl (bytesU b.1)).length := by rw [bl_length, bl_length, bytesU_size, bytesU_size]
  have z2 : (bl (bytesU a.2.1)).length = (bl (bytesU b.2.1)).length := by rw [bl_length, bl_length, bytesU_size, bytesU_size]
  obtain ⟨h1, h2⟩ := List.append_inj h' (by rw [List.length_append, List.length_append, z1, z2])
  obtain ⟨h3, h4⟩ := List.append_inj h1 z1
  have e1 := bytesU_inj ha.1 hb.1 (bl_inj h3)
  have e2 := bytesU_inj ha.2 hb.2 (bl_inj h4)
  obtain ⟨a0, a1, av⟩ := a
  obtain ⟨b0, b1, bv⟩ := b
  simp only at e1 e2
  subst e1 e2
  have e3 : av = bv := by
    have h5 : UInt8.ofNat av.toNat = UInt8.ofNat bv.toNat := by
      have : [UInt8.ofNat av.toNat] = [UInt8.ofNat bv.toNat] := h2
      simpa using this
    rcases sigOk_v ka with h6 | h6 <;> rcases sigOk_v kb with h7 | h7 <;> simp only at h6 h7 <;> subst h6 h7 <;> first | rfl | (exfalso; revert h5; decide)
  rw [e3]
theorem map_inj {α β : Type} {f : α → β} : ∀ {l m : List α}, (∀ a ∈ l, ∀ b ∈ m, f a = f b → a = b) → l.map f = m.map f → l = m
  | [], [], _, _ => rfl
  | [], b :: m, _, h => by simp at h
  | a :: l, [], _, h => by simp at h
  | a :: l, b :: m, hf, h => by
    simp only [List.map_cons, List.cons.injEq] at h
    rw [hf a (by simp) b (by simp) h.1, map_inj (fun x hx y hy => hf x (by simp [hx]) y (by simp [hy])) h.2]
theorem bF_inj {s t : ByteArray} (h : bF s = bF t) : s = t := by
  injection h with h _
  injection h with _ h
  exact bl_inj h
/-- A header's fields tell it. -/
theorem hdF_inj {h k : Hd} (hh : HdOk h) (hk : HdOk k) (nh : HdNum h) (nk : HdNum k) (oh : ∀ s ∈ h.se, s.ok) (ok : ∀ s ∈ k.se, s.ok) (e : hdF h = hdF k) : h = k := by
  unfold hdF at e
  simp only [List.cons.injEq, and_true] at e
  obtain ⟨e0, e1, e2, e3, e4, e5, e6, e7, e8, e9, e10⟩ := e
  have f0 := bF_inj e0
  have f2 := bF_inj e2
  have f3 := bF_inj e3
  have f4 := bF_inj e4
  have f5 := bF_inj e5
  have f7 := bF_inj e7
  have f1 : h.ht = k.ht := by injection e1 with e1 _; injection e1 with e1 _; have := nh.1; have := nk.1; omega
  have f9 : h.rd = k.rd := by injection e9 with e9 _; injection e9 with e9 _; have := nh.2; have := nk.2; omega
  have f6 : h.val = k.val := by injection e6 with _ e6; exact map_inj (fun a _ b _ h => bF_inj h) e6
  have f10 : h.se = k.se := by
    injection e10 with _ e10
    have := map_inj (fun a _ b _ h => bF_inj h) e10
    exact map_inj (fun a ha b hb h => sealB_inj (oh a ha) (ok b hb) (hh.2.2.2.2.2.2.2.2 a ha) (hk.2.2.2.2.2.2.2.2 b hb) h) this
  have f8 : h.ad = k.ad := by
    injection e8 with e8 _
    injection e8 with e8 _
    cases h1 : h.ad <;> cases h2 : k.ad <;> simp [h1, h2] at e8 <;> rfl
  cases h
  cases k
  simp only at f0 f1 f2 f3 f4 f5 f6 f7 f8 f9 f10
  subst f0 f1 f2 f3 f4 f5 f6 f7 f8 f9 f10
  rfl
theorem rec_inj {h k : Hd} (hh : HdOk h) (hk : HdOk k) (nh : HdNum h) (nk : HdNum k) (oh : ∀ s ∈ h.se, s.ok) (ok : ∀ s ∈ k.se, s.ok) : (recL h).1 = (recL k).1 ↔ h = k := by
  refine ⟨fun e => ?_, fun e => by rw [e]⟩
  have r1 := (rec_ok hh nh).1
  have r2 := (rec_ok hk nk).1
  have e1 : writeF hform (hdF h) = ((recL h).1, 0) := by show recL h = _; rw [r1]
  have e2 : writeF hform (hdF k) = ((recL k).1, 0) := by show recL k = _; rw [r2]
  have q1 := read_written e1 (hdF_ok nh)
  have q2 := read_written e2 (hdF_ok nk)
  rw [e] at q1
  rw [q1] at q2
  exact hdF_inj hh hk nh nk oh ok (Prod.mk.inj q2).1
end Go.Proofs.Ythipnbiilobjeaa

namespace Go.Proofs.Ythipnbiilobjeaa
open Go.RowKit Go.ChangeShapes Go.WideShapes Go.ChangeAt

theorem cSt : Try.prog.cellsOf 9 = 1 := by kernel_rfl
theorem cBo : Try.prog.cellsOf 4 = 1 := by kernel_rfl
theorem cSs : Try.prog.cellsOf 33 = 1 := by kernel_rfl
theorem row_of_cellsH {α : Type} {E : Enc α} {w : World} {a : Addr} {len cap : Nat} {q : Nat → α} (h1 : len ≤ cap) (h2 : cap ≤ maxLen) (h : ∀ i, i < len → ∀ r u, (E.cells (q i))[r]? = some u → w.cell? (a.add (i * E.k + r)) = some u) :
    RowE E w (.slice (some a) len cap) ((List.range len).map q) := by
  refine .inr ⟨a, cap, by simp, by simpa using h1, h2, fun j u hj => ?_⟩
  have hlt : j < ((List.range len).map q).length * E.k := by
    rw [← flat_length]; exact (List.getElem?_eq_some_iff.1 hj).1
  rw [List.length_map, List.length_range] at hlt
  have hk := E.pos
  have hi : j / E.k < len := (Nat.div_lt_iff_lt_mul hk).2 hlt
  have hr : j % E.k < E.k := Nat.mod_lt _ hk
  have e : j = j / E.k * E.k + j % E.k := by rw [Nat.mul_comm]; exact (Nat.div_add_mod j E.k).symm
  have hget : ((List.range len).map q)[j / E.k]? = some (q (j / E.k)) := by simp [hi]
  have := flat_get E hget (j % E.k) hr
  rw [← e, hj] at this
  have h3 := h _ hi _ _ this.symm
  rwa [← e] at h3

theorem strs_trod {H : Type} {enc : TypeId × Value → H} {w : World} {fuel : Nat} {cs : List Value} {x : DataW H × List MemPlace} (h : DataW.trod enc Try.prog w 0 (fun _ => true) true fuel 33 cs = some x) :
    ∃ v l, cs = [v] ∧ RowE encS w v l ∧ ∀ s ∈ l, s.size ≤ maxLen := by
  rcases Go.Deep.open_slice Try.underlying33 h with ⟨rfl, _⟩ | ⟨a, len, cap, m, n, D, Pl, rfl, _, hl, hm, hmm, _, hx⟩
  · exact ⟨_, [], rfl, .inl ⟨rfl, rfl⟩, fun _ h => by cases h⟩
  · rw [cSt] at hx
    obtain ⟨q, hq⟩ := Go.Deep.choose_lt (α := ByteArray) (n := len) (p := fun i b => (∀ r u, (encS.cells b)[r]? = some u → w.cell? (a.add (i * 1 + r)) = some u) ∧ b.size ≤ maxLen) (fun i hi => by
      obtain ⟨cs', h1, h2⟩ := hx i (by simp at hmm; omega)
      obtain ⟨_, hlen, hcell⟩ := World.cells?_some h1
      obtain ⟨b, e0, _, hz⟩ := DataW.trod_string Try.underlying9 h2
      subst e0
      refine ⟨b, fun r u hr => ?_, hz⟩
      have hr3 : r < 1 := by have := (List.getElem?_eq_some_iff.1 hr).1; simpa [encS] using this
      have := hcell r hr3
      rw [Go.Deep.add_add] at this
      rw [this]
      exact hr)
    refine ⟨_, _, rfl, row_of_cellsH (E := encS) hl hm (fun i hi => (hq i hi).1), fun s hs => ?_⟩
    obtain ⟨i, hi, rfl⟩ := List.mem_map.1 hs
    exact (hq i (List.mem_range.1 hi)).2

theorem cU : Try.prog.cellsOf 78 = 4 := by kernel_rfl
theorem c64 : Try.prog.cellsOf 32 = 1 := by kernel_rfl
theorem cIn : Try.prog.cellsOf 3 = 1 := by kernel_rfl
theorem cSig : Try.prog.cellsOf 80 = 9 := by kernel_rfl
theorem cSgs : Try.prog.cellsOf 34 = 1 := by kernel_rfl
theorem cHd : Try.prog.cellsOf 36 = 11 := by kernel_rfl

theorem word_wf {n : Int} (h : (Lit.int .u64 n).wf = true) : WordOk n := by
  have := bounds_u64 h
  unfold WordOk
  omega

theorem u_trod {H : Type} {enc : TypeId × Value → H} {w : World} {fuel : Nat} {c0 c1 c2 c3 : Value} {x : DataW H × List MemPlace} (h : DataW.trod enc Try.prog w 0 (fun _ => true) true fuel 78 [c0, c1, c2, c3] = some x) :
    ∃ a : U4, [c0, c1, c2, c3] = (u4c a).toList ∧ a.ok := by
  obtain ⟨y0, y1, y2, y3, n, _, g0, g1, g2, g3⟩ := trod_array4 Try.underlying78 c64 h
  obtain ⟨n0, e0, _, w0⟩ := DataW.trod_int Try.underlying32 g0
  obtain ⟨n1, e1, _, w1⟩ := DataW.trod_int Try.underlying32 g1
  obtain ⟨n2, e2, _, w2⟩ := DataW.trod_int Try.underlying32 g2
  obtain ⟨n3, e3, _, w3⟩ := DataW.trod_int Try.underlying32 g3
  simp at e0 e1 e2 e3
  subst e0 e1 e2 e3
  exact ⟨(n0, n1, n2, n3), rfl, word_wf w0, word_wf w1, word_wf w2, word_wf w3⟩

theorem sig_trod {H : Type} {enc : TypeId × Value → H} {w : World} {fuel : Nat} {cs : List Value} {x : DataW H × List MemPlace} (hlen : cs.length = 9) (h : DataW.trod enc Try.prog w 0 (fun _ => true) true fuel 80 cs = some x) :
    ∃ s : Sg, cs = (sgc s).toList ∧ s.ok := by
  match cs, hlen with
  | [c0, c1, c2, c3, c4, c5, c6, c7, c8], _ =>
    obtain ⟨xs, n, _, _, _, hl, hg⟩ := DataW.trod_struct Try.underlying80 h
    match xs, hl with
    | [y0, y1, y2], _ =>
      have g0 : DataW.trod enc Try.prog w 0 (fun _ => true) true n 78 (([c0, c1, c2, c3, c4, c5, c6, c7, c8].drop 0).take (Try.prog.cellsOf 78)) = some y0 := hg 0 _ rfl
      have g1 : DataW.trod enc Try.prog w 0 (fun _ => true) true n 78 (([c0, c1, c2, c3, c4, c5, c6, c7, c8].drop 4).take (Try.prog.cellsOf 78)) = some y1 := hg 1 _ rfl
      have g2 : DataW.trod enc Try.prog w 0 (fun _ => true) true n 3 (([c0, c1, c2, c3, c4, c5, c6, c7, c8].drop 8).take (Try.prog.cellsOf 3)) = some y2 := hg 2 _ rfl
      rw [cU] at g0 g1
      rw [cIn] at g2
      obtain ⟨a, e0, o0⟩ := u_trod (c0 := c0) (c1 := c1) (c2 := c2) (c3 := c3) g0
      obtain ⟨b, e1, o1⟩ := u_trod (c0 := c4) (c1 := c5) (c2 := c6) (c3 := c7) g1
      obtain ⟨v, e2, _, _⟩ := DataW.trod_int Try.underlying3 (cs := [c8]) g2
      simp at e0 e1 e2
      obtain ⟨r0, r1, r2, r3⟩ := e0
      obtain ⟨s0, s1, s2, s3⟩ := e1
      subst r0 r1 r2 r3 s0 s1 s2 s3 e2
      exact ⟨(a, b, v), rfl, o0, o1⟩

theorem sigs_trod {H : Type} {enc : TypeId × Value → H} {w : World} {fuel : Nat} {cs : List Value} {x : DataW H × List MemPlace} (h : DataW.trod enc Try.prog w 0 (fun _ => true) true fuel 34 cs = some x) :
    ∃ v l, cs = [v] ∧ RowE encG w v l ∧ ∀ s ∈ l, s.ok := by
  rcases Go.Deep.open_slice Try.underlying34 h with ⟨rfl, _⟩ | ⟨a, len, cap, m, n, D, Pl, rfl, _, hl, hm, hmm, _, hx⟩
  · exact ⟨_, [], rfl, .inl ⟨rfl, rfl⟩, fun _ h => by cases h⟩
  · rw [cSig] at hx
    obtain ⟨q, hq⟩ := Go.Deep.choose_lt (α := Sg) (n := len) (p := fun i b => (∀ r u, (encG.cells b)[r]? = some u → w.cell? (a.add (i * 9 + r)) = some u) ∧ b.ok) (fun i hi => by
      obtain ⟨cs', h1, h2⟩ := hx i (by simp at hmm; omega)
      obtain ⟨_, hlen, hcell⟩ := World.cells?_some h1
      obtain ⟨b, rfl, ho⟩ := sig_trod hlen h2
      refine ⟨b, fun r u hr => ?_, ho⟩
      have hr3 : r < 9 := by have := (List.getElem?_eq_some_iff.1 hr).1; simpa [encG] using this
      have := hcell r hr3
      rw [Go.Deep.add_add] at this
      rw [this]
      exact hr)
    refine ⟨_, _, rfl, row_of_cellsH (E := encG) hl hm (fun i hi => (hq i hi).1), fun s hs => ?_⟩
    obtain ⟨i, hi, rfl⟩ := List.mem_map.1 hs
    exact (hq i (List.mem_range.1 hi)).2


/-- A header as it comes in. -/
def HdRep (w : World) (v : Value) (h : Hd) : Prop := ∃ sv gv, v = .agg (hdc h sv gv) ∧ HdAt w h sv gv ∧ HdNum h ∧ (h.pa.size ≤ 9223372036854775807 ∧ h.ro.size ≤ 9223372036854775807 ∧ h.tx.size ≤ 9223372036854775807 ∧ h.pr.size ≤ 9223372036854775807 ∧ h.va.size ≤ 9223372036854775807 ∧ h.vo.size ≤ 9223372036854775807) ∧ ∀ s ∈ h.val, s.size ≤ 9223372036854775807
theorem hdr_trod {H : Type} {enc : TypeId × Value → H} {w : World} {fuel : Nat} {cs : List Value} {x : DataW H × List MemPlace} (hlen : cs.length = 11) (h : DataW.trod enc Try.prog w 0 (fun _ => true) true fuel 36 cs = some x) :
    ∃ s : Hd, HdRep w (.agg ⟨cs⟩) s := by
  match cs, hlen with
  | [c0, c1, c2, c3, c4, c5, c6, c7, c8, c9, c10], _ =>
    obtain ⟨xs, n, _, _, _, hl, hg⟩ := DataW.trod_struct Try.underlying36 h
    match xs, hl with
    | [y0, y1, y2, y3, y4, y5, y6, y7, y8, y9, y10], _ =>
      have g0 : DataW.trod enc Try.prog w 0 (fun _ => true) true n 9 (([c0, c1, c2, c3, c4, c5, c6, c7, c8, c9, c10].drop 0).take (Try.prog.cellsOf 9)) = some y0 := hg 0 _ rfl
      have g1 : DataW.trod enc Try.prog w 0 (fun _ => true) true n 32 (([c0, c1, c2, c3, c4, c5, c6, c7, c8, c9, c10].drop 1).take (Try.prog.cellsOf 32)) = some y1 := hg 1 _ rfl
      have g2 : DataW.trod enc Try.prog w 0 (fun _ => true) true n 9 (([c0, c1, c2, c3, c4, c5, c6, c7, c8, c9, c10].drop 2).take (Try.prog.cellsOf 9)) = some y2 := hg 2 _ rfl
      have g3 : DataW.trod enc Try.prog w 0 (fun _ => true) true n 9 (([c0, c1, c2, c3, c4, c5, c6, c7, c8, c9, c10].drop 3).take (Try.prog.cellsOf 9)) = some y3 := hg 3 _ rfl
      have g4 : DataW.trod enc Try.prog w 0 (fun _ => true) true n 9 (([c0, c1, c2, c3, c4, c5, c6, c7, c8, c9, c10].drop 4).take (Try.prog.cellsOf 9)) = some y4 := hg 4 _ rfl
      have g5 : DataW.trod enc Try.prog w 0 (fun _ => true) true n 9 (([c0, c1, c2, c3, c4, c5, c6, c7, c8, c9, c10].drop 5).take (Try.prog.cellsOf 9)) = some y5 := hg 5 _ rfl
      have g6 : DataW.trod enc Try.prog w 0 (fun _ => true) true n 33 (([c0, c1, c2, c3, c4, c5, c6, c7, c8, c9, c10].drop 6).take (Try.prog.cellsOf 33)) = some y6 := hg 6 _ rfl
      have g7 : DataW.trod enc Try.prog w 0 (fun _ => true) true n 9 (([c0, c1, c2, c3, c4, c5, c6, c7, c8, c9, c10].drop 7).take (Try.prog.cellsOf 9)) = some y7 := hg 7 _ rfl
      have g8 : DataW.trod enc Try.prog w 0 (fun _ => true) true n 4 (([c0, c1, c2, c3, c4, c5, c6, c7, c8, c9, c10].drop 8).take (Try.prog.cellsOf 4)) = some y8 := hg 8 _ rfl
      have g9 : DataW.trod enc Try.prog w 0 (fun _ => true) true n 32 (([c0, c1, c2, c3, c4, c5, c6, c7, c8, c9, c10].drop 9).take (Try.prog.cellsOf 32)) = some y9 := hg 9 _ rfl
      have g10 : DataW.trod enc Try.prog w 0 (fun _ => true) true n 34 (([c0, c1, c2, c3, c4, c5, c6, c7, c8, c9, c10].drop 10).take (Try.prog.cellsOf 34)) = some y10 := hg 10 _ rfl
      rw [cSt] at g0
      rw [c64] at g1
      rw [cSt] at g2
      rw [cSt] at g3
      rw [cSt] at g4
      rw [cSt] at g5
      rw [cSs] at g6
      rw [cSt] at g7
      rw [cBo] at g8
      rw [c64] at g9
      rw [cSgs] at g10
      obtain ⟨pa, e0, _, w0⟩ := DataW.trod_string Try.underlying9 (cs := [c0]) g0
      obtain ⟨ht, e1, _, w1⟩ := DataW.trod_int Try.underlying32 (cs := [c1]) g1
      obtain ⟨ro, e2, _, w2⟩ := DataW.trod_string Try.underlying9 (cs := [c2]) g2
      obtain ⟨tx, e3, _, w3⟩ := DataW.trod_string Try.underlying9 (cs := [c3]) g3
      obtain ⟨pr, e4, _, w4⟩ := DataW.trod_string Try.underlying9 (cs := [c4]) g4
      obtain ⟨va, e5, _, w5⟩ := DataW.trod_string Try.underlying9 (cs := [c5]) g5
      obtain ⟨sv, val, e6, hS, hvz⟩ := strs_trod (cs := [c6]) g6
      obtain ⟨vo, e7, _, w7⟩ := DataW.trod_string Try.underlying9 (cs := [c7]) g7
      obtain ⟨ad, e8, _⟩ := DataW.trod_bool Try.underlying4 (cs := [c8]) g8
      obtain ⟨rd, e9, _, w9⟩ := DataW.trod_int Try.underlying32 (cs := [c9]) g9
      obtain ⟨gv, se, e10, hG, hok⟩ := sigs_trod (cs := [c10]) g10
      simp at e0 e1 e2 e3 e4 e5 e6 e7 e8 e9 e10
      subst e0 e1 e2 e3 e4 e5 e6 e7 e8 e9 e10
      have b1 := bounds_u64 w1
      have b9 := bounds_u64 w9
      unfold maxLen at w0 w2 w3 w4 w5 w7 hvz
      have l0 : pa.size ≤ 9223372036854775807 := by omega
      have l2 : ro.size ≤ 9223372036854775807 := by omega
      have l3 : tx.size ≤ 9223372036854775807 := by omega
      have l4 : pr.size ≤ 9223372036854775807 := by omega
      have l5 : va.size ≤ 9223372036854775807 := by omega
      have l7 : vo.size ≤ 9223372036854775807 := by omega
      exact ⟨⟨pa, ht, ro, tx, pr, va, val, vo, ad, rd, se⟩, _, _, rfl, ⟨hS, hG, hok⟩, ⟨⟨b1.1, Int.lt_of_le_of_lt b1.2 (by decide)⟩, ⟨b9.1, Int.lt_of_le_of_lt b9.2 (by decide)⟩⟩, ⟨l0, l2, l3, l4, l5, l7⟩, fun s hs => by have := hvz s hs; omega⟩
set_option maxRecDepth 100000 in
theorem hdr_open {H : Type} {enc : TypeId × Value → H} {w : World} {base : Nat} {v : Value} {d : DataW H} {p : List MemPlace} (hv : Value.okWide Try.prog w .any base 36 v) (h : DataW.Trod enc Try.prog w 0 (fun _ => true) true 36 v d p) (_ : ∀ x ∈ p, x.block < w.heap.size) : ∃ x, HdRep w v x := by
  obtain ⟨cs, rfl, hsz⟩ := okWide_struct Try.underlying36 hv
  obtain ⟨fuel, hf⟩ := h
  obtain ⟨l⟩ := cs
  exact hdr_trod (cs := l) (hsz.trans cHd) hf

def SigsRep (w : World) (v : Value) (l : List Sg) : Prop := RowE encG w v l ∧ ∀ s ∈ l, s.ok
set_option maxRecDepth 100000 in
theorem sgs_open {H : Type} {enc : TypeId × Value → H} {w : World} {base : Nat} {v : Value} {d : DataW H} {p : List MemPlace} (hv : Value.okWide Try.prog w .any base 34 v) (h : DataW.Trod enc Try.prog w 0 (fun _ => true) true 34 v d p) (_ : ∀ x ∈ p, x.block < w.heap.size) : ∃ x, SigsRep w v x := by
  obtain ⟨a0, len, cap, rfl⟩ := okWide_slice Try.underlying34 hv
  obtain ⟨fuel, hf⟩ := h
  obtain ⟨u, l, e, hl⟩ := sigs_trod hf
  simp [Value.cells] at e
  subst e
  exact ⟨l, hl⟩
end Go.Proofs.Ythipnbiilobjeaa

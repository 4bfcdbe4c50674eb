/- Header: ref17.Like. -/
import Derived.Test.YthipnbiilobjeaaSig
namespace Go.Proofs.Ythipnbiilobjeaa
open Go.RowKit Go.Shelf
set_option maxRecDepth 100000

noncomputable def likeH (h k : Hd) : Bool := @decide (h = k) (Classical.propDecidable _)
theorem likeH_yes {h k : Hd} (e : h = k) : likeH h k = true := @decide_eq_true _ (Classical.propDecidable _) e
theorem likeH_no {h k : Hd} (e : ¬ h = k) : likeH h k = false := @decide_eq_false _ (Classical.propDecidable _) e

set_option maxHeartbeats 8000000 in
theorem hlike_any (h k : Hd) (sv gv sv2 gv2 : Value) (w : World) (hh : HdAt w h sv gv) (hk : HdAt w k sv2 gv2) : Calls Try.prog 19 #[.agg (hdc h sv gv), .agg (hdc k sv2 gv2)] w fun e w' => e = .returned (.bool (likeH h k)) ∧ Below w.heap.size w w' := by
  have HY := Lib.hid (@likeH_yes h k)
  have HN := Lib.hid (@likeH_no h k)
  generalize likeH h k = R at *
  obtain ⟨pS, cS, rfl, s1, s2⟩ := RowE.shape encS hh.1
  obtain ⟨pG, cG, rfl, s3, s4⟩ := RowE.shape encG hh.2.1
  obtain ⟨pS2, cS2, rfl, s5, s6⟩ := RowE.shape encS hk.1
  obtain ⟨pG2, cG2, rfl, s7, s8⟩ := RowE.shape encG hk.2.1
  have HS := Lib.hid hh.1
  have HG := Lib.hid hh.2.1
  have HS2 := Lib.hid hk.1
  have HG2 := Lib.hid hk.2.1
  clear hh hk
  obtain ⟨pa, ht, ro, tx, pr, va, val, vo, ad, rd, se⟩ := h
  obtain ⟨pa2, ht2, ro2, tx2, pr2, va2, val2, vo2, ad2, rd2, se2⟩ := k
  simp only at s1 s3 s5 s7 HS HG HS2 HG2
  unfold maxLen at s2 s4 s6 s8
  have R1 := Lib.hid ((RowAt.new w #[.string pa, .int .u64 ht, .string ro, .string tx, .string pr, .string va, .slice pS val.length cS, .string vo, .bool ad, .int .u64 rd, .slice pG se.length cG] 36).alloc (.cells #[.string pa2, .int .u64 ht2, .string ro2, .string tx2, .string pr2, .string va2, .slice pS2 val2.length cS2, .string vo2, .bool ad2, .int .u64 rd2, .slice pG2 se2.length cG2] 36))
  have R2 := Lib.hid (RowAt.new' (w.alloc (.cells #[.string pa, .int .u64 ht, .string ro, .string tx, .string pr, .string va, .slice pS val.length cS, .string vo, .bool ad, .int .u64 rd, .slice pG se.length cG] 36)) #[.string pa2, .int .u64 ht2, .string ro2, .string tx2, .string pr2, .string va2, .slice pS2 val2.length cS2, .string vo2, .bool ad2, .int .u64 rd2, .slice pG2 se2.length cG2] 36 (k := w.heap.size + 1) (by simp))
  have HB := Lib.hid (bel2 w (.cells #[.string pa, .int .u64 ht, .string ro, .string tx, .string pr, .string va, .slice pS val.length cS, .string vo, .bool ad, .int .u64 rd, .slice pG se.length cG] 36) (.cells #[.string pa2, .int .u64 ht2, .string ro2, .string tx2, .string pr2, .string va2, .slice pS2 val2.length cS2, .string vo2, .bool ad2, .int .u64 rd2, .slice pG2 se2.length cG2] 36))
  obtain ⟨x0, x1, x2, x3, x4, x5, x6, x7, x8, x9, x10⟩ := R1.out.c11
  obtain ⟨y0, y1, y2, y3, y4, y5, y6, y7, y8, y9, y10⟩ := R2.out.c11
  by_cases e0 : pa = pa2
  · subst e0
    by_cases e1 : ht = ht2
    · subst e1
      by_cases e2 : ro = ro2
      · subst e2
        by_cases e3 : tx = tx2
        · subst e3
          by_cases e4 : pr = pr2
          · subst e4
            by_cases e5 : va = va2
            · subst e5
              by_cases e6 : vo = vo2
              · subst e6
                by_cases e7 : ad = ad2
                · subst e7
                  by_cases e8 : rd = rd2
                  · subst e8
                    by_cases l1 : val.length = val2.length
                    · by_cases l2 : se.length = se2.length
                      · have hyes : val = val2 → se = se2 → R = true := fun e1 e2 => HY.out (by rw [e1, e2])
                        have hno1 : val ≠ val2 → R = false := fun e => HN.out (fun h => e (by injection h))
                        have hno2 : se ≠ se2 → R = false := fun e => HN.out (fun h => e (by injection h))
                        have HY2 := Lib.hid hyes
                        have HN1 := Lib.hid hno1
                        have HN2 := Lib.hid hno2
                        clear HY HN hyes hno1 hno2
                        rw [← l1] at s5 HS2 R1 R2 HB y6 ⊢
                        rw [← l2] at s7 HG2 R1 R2 HB y10 ⊢
                        have L1 := Lib.hid l1
                        have L2 := Lib.hid l2
                        clear l1 l2
                        go_enter Try.func19, Try.ntmps19
                        go_upto_region 6 with (fail)
                        clear x0 x1 x2 x3 x4 x5 x6 x7 x8 x9 x10 y0 y1 y2 y3 y4 y5 y6 y7 y8 y9 y10
                        generalize (w.alloc (.cells #[.string pa, .int .u64 ht, .string ro, .string tx, .string pr, .string va, .slice pS val.length cS, .string vo, .bool ad, .int .u64 rd, .slice pG se.length cG] 36)).alloc (.cells #[.string pa, .int .u64 ht, .string ro, .string tx, .string pr, .string va, .slice pS2 val.length cS2, .string vo, .bool ad, .int .u64 rd, .slice pG2 se.length cG2] 36) = W at *
                        go_loopw [87] (fun s87 wr => ∃ (i : Nat), i ≤ val.length ∧ s87 = .int .i64 i ∧ Hid (val.take i = val2.take i) ∧ Hid (Below W.heap.size W wr)) (fun s _ => val.length - (intOf s).toNat)
                        case atStart => exact ⟨0, Nat.zero_le _, rfl, Lib.hid (by simp), Lib.hid (Below.refl _ _)⟩
                        case round =>
                          obtain ⟨i, hi, rfl, hp, hb⟩ := hrel
                          have HP := Lib.hid hp.out
                          have HBW := Lib.hid hb.out
                          clear hp hb
                          by_cases hlt : i < val.length
                          · obtain ⟨x, hx⟩ : ∃ x, val[i]? = some x := ⟨_, List.getElem?_eq_getElem hlt⟩
                            obtain ⟨y, hy⟩ : ∃ y, val2[i]? = some y := ⟨_, List.getElem?_eq_getElem (by have := L1.out; omega)⟩
                            obtain ⟨-, -, -, hat⟩ := RowE.atS HS.out
                            obtain ⟨a, rfl, ha⟩ := hat i x hx
                            obtain ⟨-, -, -, hat2⟩ := RowE.atS (show RowE encS w (.slice pS2 val.length cS2) val2 from HS2.out)
                            obtain ⟨b, rfl, hb2⟩ := hat2 i y hy
                            have m1 : ∀ u : Later wr, u.w.cell? (a.add i) = some (.string x) := fun u => by rw [u.below.cell (by have := HBW.out.size; have := HB.out.size; have := block_lt_of_cell ha; omega), HBW.out.cell (by have := HB.out.size; have := block_lt_of_cell ha; omega), HB.out.cell (block_lt_of_cell ha)]; exact ha
                            have m2 : ∀ u : Later wr, u.w.cell? (b.add i) = some (.string y) := fun u => by rw [u.below.cell (by have := HBW.out.size; have := HB.out.size; have := block_lt_of_cell hb2; omega), HBW.out.cell (by have := HB.out.size; have := block_lt_of_cell hb2; omega), HB.out.cell (block_lt_of_cell hb2)]; exact hb2
                            have p1 : ∀ u : Later wr, u.w.cell? ⟨w.heap.size, 6, none⟩ = some (.slice (some a) val.length cS) := fun u => ((R1.out.belowS HBW.out).later u).cell 6
                            have p2 : ∀ u : Later wr, u.w.cell? ⟨w.heap.size + 1, 6, none⟩ = some (.slice (some b) val.length cS2) := fun u => ((R2.out.belowS HBW.out).later u).cell 6
                            have HNX : Hid (x ≠ y → R = false) := Lib.hid (fun e => HN1.out (fun h => e (by rw [h, hy] at hx; injection hx with hx; exact hx.symm)))
                            have HPX : Hid (x = y → val.take (i + 1) = val2.take (i + 1)) := Lib.hid (fun e => by rw [List.take_add_one, List.take_add_one, hx, hy, HP.out, e])
                            clear hat hat2 ha hb2 hx hy
                            by_cases e : x = y
                            · have HP2 := Lib.hid (HPX.out e)
                              subst e
                              clear HPX HNX
                              go_upto_region 8 with (fail)
                              (refine region_later mix ?hB ?_; case hB => kernel_rfl); (repeat (first | go_big_quiet_step ((fail)) | quiet_step ((fail)))); (refine wpQuiet_nil ?_; rintro _ ⟨u, rfl⟩)
                              clear m1 m2 p1 p2
                              have HBX := Lib.hid (HBW.out.trans (u.below.mono HBW.out.size))
                              clear HBW
                              generalize u.w = wu at *
                              go_wp2
                              exact ⟨⟨i + 1, by omega, by simp, HP2, HBX⟩, by simp [intOf]; omega⟩
                            · have hno := Lib.hid (HNX.out e)
                              have q : (x.toList == y.toList) = false := beq_eq_false_iff_ne.2 (fun h => e (by rw [toList_bl, toList_bl] at h; exact bl_inj h))
                              clear e HPX HNX
                              go_upto_region 8 with (fail)
                              (refine region_later mix ?hB ?_; case hB => kernel_rfl); (repeat (first | go_big_quiet_step ((fail)) | quiet_step ((fail)))); (refine wpQuiet_nil ?_; rintro _ ⟨u, rfl⟩)
                              clear m1 m2 p1 p2
                              have HBX := Lib.hid (HBW.out.trans (u.below.mono HBW.out.size))
                              clear HBW
                              generalize u.w = wu at *
                              go_wp2
                              go_ret
                              exact ⟨by rw [hno.out]; rfl, HB.out.trans (HBX.out.mono HB.out.size)⟩
                          · obtain rfl : i = val.length := by omega
                            have hval : val = val2 := by have := HP.out; rwa [List.take_length, L1.out, List.take_length] at this
                            have HVE := Lib.hid hval
                            clear hval HP hlt hi
                            have x10 : wr.cell? ⟨w.heap.size, 10, none⟩ = some (.slice pG se.length cG) := (R1.out.belowS HBW.out).cell 10
                            go_upto_region 12 with (fail)
                            clear x10
                            go_loopw [105] (fun s105 wr => ∃ (i : Nat), i ≤ se.length ∧ s105 = .int .i64 i ∧ Hid (se.take i = se2.take i) ∧ Hid (Below W.heap.size W wr)) (fun s _ => se.length - (intOf s).toNat)
                            case atStart => exact ⟨0, Nat.zero_le _, rfl, Lib.hid (by simp), HBW⟩
                            case round =>
                              clear HBW
                              obtain ⟨i, hi, rfl, hp, hb⟩ := hrel
                              have HP := Lib.hid hp.out
                              have HBW := Lib.hid hb.out
                              clear hp hb
                              by_cases hlt : i < se.length
                              · obtain ⟨x, hx⟩ : ∃ x, se[i]? = some x := ⟨_, List.getElem?_eq_getElem hlt⟩
                                obtain ⟨y, hy⟩ : ∃ y, se2[i]? = some y := ⟨_, List.getElem?_eq_getElem (by have := L2.out; omega)⟩
                                obtain ⟨a, rfl, ha⟩ := HG.out.atG i x hx
                                obtain ⟨b, rfl, hb2⟩ := (show RowE encG w (.slice pG2 se.length cG2) se2 from HG2.out).atG i y hy
                                have keyu : ∀ {q : Addr} {v : Value}, w.cell? q = some v → ∀ u : Later wr, u.w.cell? q = some v := fun ha u => by rw [u.below.cell (by have := HBW.out.size; have := HB.out.size; have := block_lt_of_cell ha; omega), HBW.out.cell (by have := HB.out.size; have := block_lt_of_cell ha; omega), HB.out.cell (block_lt_of_cell ha)]; exact ha
                                have HNX : Hid (x ≠ y → R = false) := Lib.hid (fun e => HN2.out (fun h => e (by rw [h, hy] at hx; injection hx with hx; exact hx.symm)))
                                have HPX : Hid (x = y → se.take (i + 1) = se2.take (i + 1)) := Lib.hid (fun e => by rw [List.take_add_one, List.take_add_one, hx, hy, HP.out, e])
                                have p1 : ∀ u : Later wr, u.w.cell? ⟨w.heap.size, 10, none⟩ = some (.slice (some a) se.length cG) := fun u => ((R1.out.belowS HBW.out).later u).cell 10
                                have p2 : ∀ u : Later wr, u.w.cell? ⟨w.heap.size + 1, 10, none⟩ = some (.slice (some b) se.length cG2) := fun u => ((R2.out.belowS HBW.out).later u).cell 10
                                clear hx hy
                                obtain ⟨⟨r0, r1, r2, r3⟩, ⟨t0, t1, t2, t3⟩, v⟩ := x
                                obtain ⟨⟨r0', r1', r2', r3'⟩, ⟨t0', t1', t2', t3'⟩, v'⟩ := y
                                have m0 : ∀ u : Later wr, u.w.cell? (a.add (i * 9)) = some (.int .u64 r0) := fun u => keyu (ha 0 _ rfl) u
                                have m1 : ∀ u : Later wr, u.w.cell? ⟨(a.add (i * 9)).block, (a.add (i * 9)).off + 1, none⟩ = some (.int .u64 r1) := fun u => keyu (ha 1 _ rfl) u
                                have m2 : ∀ u : Later wr, u.w.cell? ⟨(a.add (i * 9)).block, (a.add (i * 9)).off + 2, none⟩ = some (.int .u64 r2) := fun u => keyu (ha 2 _ rfl) u
                                have m3 : ∀ u : Later wr, u.w.cell? ⟨(a.add (i * 9)).block, (a.add (i * 9)).off + 3, none⟩ = some (.int .u64 r3) := fun u => keyu (ha 3 _ rfl) u
                                have m4 : ∀ u : Later wr, u.w.cell? ⟨(a.add (i * 9)).block, (a.add (i * 9)).off + 4, none⟩ = some (.int .u64 t0) := fun u => keyu (ha 4 _ rfl) u
                                have m5 : ∀ u : Later wr, u.w.cell? ⟨(a.add (i * 9)).block, (a.add (i * 9)).off + 5, none⟩ = some (.int .u64 t1) := fun u => keyu (ha 5 _ rfl) u
                                have m6 : ∀ u : Later wr, u.w.cell? ⟨(a.add (i * 9)).block, (a.add (i * 9)).off + 6, none⟩ = some (.int .u64 t2) := fun u => keyu (ha 6 _ rfl) u
                                have m7 : ∀ u : Later wr, u.w.cell? ⟨(a.add (i * 9)).block, (a.add (i * 9)).off + 7, none⟩ = some (.int .u64 t3) := fun u => keyu (ha 7 _ rfl) u
                                have m8 : ∀ u : Later wr, u.w.cell? ⟨(a.add (i * 9)).block, (a.add (i * 9)).off + 8, none⟩ = some (.int .i64 v) := fun u => keyu (ha 8 _ rfl) u
                                have n0 : ∀ u : Later wr, u.w.cell? (b.add (i * 9)) = some (.int .u64 r0') := fun u => keyu (hb2 0 _ rfl) u
                                have n1 : ∀ u : Later wr, u.w.cell? ⟨(b.add (i * 9)).block, (b.add (i * 9)).off + 1, none⟩ = some (.int .u64 r1') := fun u => keyu (hb2 1 _ rfl) u
                                have n2 : ∀ u : Later wr, u.w.cell? ⟨(b.add (i * 9)).block, (b.add (i * 9)).off + 2, none⟩ = some (.int .u64 r2') := fun u => keyu (hb2 2 _ rfl) u
                                have n3 : ∀ u : Later wr, u.w.cell? ⟨(b.add (i * 9)).block, (b.add (i * 9)).off + 3, none⟩ = some (.int .u64 r3') := fun u => keyu (hb2 3 _ rfl) u
                                have n4 : ∀ u : Later wr, u.w.cell? ⟨(b.add (i * 9)).block, (b.add (i * 9)).off + 4, none⟩ = some (.int .u64 t0') := fun u => keyu (hb2 4 _ rfl) u
                                have n5 : ∀ u : Later wr, u.w.cell? ⟨(b.add (i * 9)).block, (b.add (i * 9)).off + 5, none⟩ = some (.int .u64 t1') := fun u => keyu (hb2 5 _ rfl) u
                                have n6 : ∀ u : Later wr, u.w.cell? ⟨(b.add (i * 9)).block, (b.add (i * 9)).off + 6, none⟩ = some (.int .u64 t2') := fun u => keyu (hb2 6 _ rfl) u
                                have n7 : ∀ u : Later wr, u.w.cell? ⟨(b.add (i * 9)).block, (b.add (i * 9)).off + 7, none⟩ = some (.int .u64 t3') := fun u => keyu (hb2 7 _ rfl) u
                                have n8 : ∀ u : Later wr, u.w.cell? ⟨(b.add (i * 9)).block, (b.add (i * 9)).off + 8, none⟩ = some (.int .i64 v') := fun u => keyu (hb2 8 _ rfl) u
                                clear keyu ha hb2
                                have hq := fun w => eqSig_run ((r0, r1, r2, r3), (t0, t1, t2, t3), v) ((r0', r1', r2', r3'), (t0', t1', t2', t3'), v') w
                                by_cases e : (((r0, r1, r2, r3), (t0, t1, t2, t3), v) : Sg) = ((r0', r1', r2', r3'), (t0', t1', t2', t3'), v')
                                · have HP2 := Lib.hid (HPX.out e)
                                  rw [decide_eq_true e] at hq
                                  clear HPX HNX e
                                  go_upto_region 14 with (fail)
                                  (refine region_later mix ?hB ?_; case hB => kernel_rfl); (repeat (first | go_big_quiet_step ((fail)) | quiet_step ((fail)))); (refine wpQuiet_nil ?_; rintro _ ⟨u, rfl⟩)
                                  clear m0 m1 m2 m3 m4 m5 m6 m7 m8 n0 n1 n2 n3 n4 n5 n6 n7 n8 p1 p2 hq
                                  have HBX := Lib.hid (HBW.out.trans (u.below.mono HBW.out.size))
                                  clear HBW
                                  generalize u.w = wu at *
                                  go_wp2
                                  exact ⟨⟨i + 1, by omega, by simp, HP2, HBX⟩, by simp [intOf]; omega⟩
                                · have hno := Lib.hid (HNX.out e)
                                  rw [decide_eq_false e] at hq
                                  clear HPX HNX e
                                  go_upto_region 14 with (fail)
                                  (refine region_later mix ?hB ?_; case hB => kernel_rfl); (repeat (first | go_big_quiet_step ((fail)) | quiet_step ((fail)))); (refine wpQuiet_nil ?_; rintro _ ⟨u, rfl⟩)
                                  clear m0 m1 m2 m3 m4 m5 m6 m7 m8 n0 n1 n2 n3 n4 n5 n6 n7 n8 p1 p2 hq
                                  have HBX := Lib.hid (HBW.out.trans (u.below.mono HBW.out.size))
                                  clear HBW
                                  generalize u.w = wu at *
                                  go_wp2
                                  go_ret
                                  exact ⟨by rw [hno.out]; rfl, HB.out.trans (HBX.out.mono HB.out.size)⟩
                              · obtain rfl : i = se.length := by omega
                                have hse : se = se2 := by have := HP.out; rwa [List.take_length, L2.out, List.take_length] at this
                                have hr := HY2.out HVE.out hse
                                clear hse HP hlt hi
                                go_wp2
                                go_ret
                                exact ⟨by first | rfl | (rw [hr]; rfl), HB.out.trans (HBW.out.mono HB.out.size)⟩
                      · have hno := HN.out (fun h => l2 (by injection h with _ _ _ _ _ _ _ _ _ _ h; rw [h]))
                        have q : ((se.length : Int) != (se2.length : Int)) = true := bne_iff_ne.2 (by omega)
                        rw [← l1] at R1 R2 HB y6 ⊢
                        clear l2 l1
                        go_enter Try.func19, Try.ntmps19
                        go_wp2
                        go_ret
                        exact ⟨by first | rfl | (rw [hno]; rfl), HB.out⟩
                    · have hno := HN.out (fun h => l1 (by injection h with _ _ _ _ _ _ h; rw [h]))
                      have q : ((val.length : Int) != (val2.length : Int)) = true := bne_iff_ne.2 (by omega)
                      clear l1
                      go_enter Try.func19, Try.ntmps19
                      go_wp2
                      go_ret
                      exact ⟨by first | rfl | (rw [hno]; rfl), HB.out⟩
                  · have hno := HN.out (fun h => e8 (by injection h))
                    have q : (rd == rd2) = false := by simpa using e8
                    have q' : (rd != rd2) = true := by simpa using e8
                    clear e8
                    go_enter Try.func19, Try.ntmps19
                    go_wp2
                    go_ret
                    exact ⟨by first | rfl | (rw [hno]; rfl), HB.out⟩
                · have hno := HN.out (fun h => e7 (by injection h))
                  have q : (ad == ad2) = false := by simpa using e7
                  have q' : (ad != ad2) = true := by simpa using e7
                  clear e7
                  go_enter Try.func19, Try.ntmps19
                  go_wp2
                  go_ret
                  exact ⟨by first | rfl | (rw [hno]; rfl), HB.out⟩
              · have hno := HN.out (fun h => e6 (by injection h))
                have q : (vo.toList == vo2.toList) = false := beq_eq_false_iff_ne.2 (fun h => e6 (by rw [toList_bl, toList_bl] at h; exact bl_inj h))
                clear e6
                go_enter Try.func19, Try.ntmps19
                go_wp2
                go_ret
                exact ⟨by first | rfl | (rw [hno]; rfl), HB.out⟩
            · have hno := HN.out (fun h => e5 (by injection h))
              have q : (va.toList == va2.toList) = false := beq_eq_false_iff_ne.2 (fun h => e5 (by rw [toList_bl, toList_bl] at h; exact bl_inj h))
              clear e5
              go_enter Try.func19, Try.ntmps19
              go_wp2
              go_ret
              exact ⟨by first | rfl | (rw [hno]; rfl), HB.out⟩
          · have hno := HN.out (fun h => e4 (by injection h))
            have q : (pr.toList == pr2.toList) = false := beq_eq_false_iff_ne.2 (fun h => e4 (by rw [toList_bl, toList_bl] at h; exact bl_inj h))
            clear e4
            go_enter Try.func19, Try.ntmps19
            go_wp2
            go_ret
            exact ⟨by first | rfl | (rw [hno]; rfl), HB.out⟩
        · have hno := HN.out (fun h => e3 (by injection h))
          have q : (tx.toList == tx2.toList) = false := beq_eq_false_iff_ne.2 (fun h => e3 (by rw [toList_bl, toList_bl] at h; exact bl_inj h))
          clear e3
          go_enter Try.func19, Try.ntmps19
          go_wp2
          go_ret
          exact ⟨by first | rfl | (rw [hno]; rfl), HB.out⟩
      · have hno := HN.out (fun h => e2 (by injection h))
        have q : (ro.toList == ro2.toList) = false := beq_eq_false_iff_ne.2 (fun h => e2 (by rw [toList_bl, toList_bl] at h; exact bl_inj h))
        clear e2
        go_enter Try.func19, Try.ntmps19
        go_wp2
        go_ret
        exact ⟨by first | rfl | (rw [hno]; rfl), HB.out⟩
    · have hno := HN.out (fun h => e1 (by injection h))
      have q : (ht == ht2) = false := by simpa using e1
      have q' : (ht != ht2) = true := by simpa using e1
      clear e1
      go_enter Try.func19, Try.ntmps19
      go_wp2
      go_ret
      exact ⟨by first | rfl | (rw [hno]; rfl), HB.out⟩
  · have hno := HN.out (fun h => e0 (by injection h))
    have q : (pa.toList == pa2.toList) = false := beq_eq_false_iff_ne.2 (fun h => e0 (by rw [toList_bl, toList_bl] at h; exact bl_inj h))
    clear e0
    go_enter Try.func19, Try.ntmps19
    go_wp2
    go_ret
    exact ⟨by first | rfl | (rw [hno]; rfl), HB.out⟩
end Go.Proofs.Ythipnbiilobjeaa

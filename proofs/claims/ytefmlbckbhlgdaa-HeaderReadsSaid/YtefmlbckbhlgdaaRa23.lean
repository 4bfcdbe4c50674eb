/- Header: ref17.Like. Header, the plain side: two headers that may be have the same bytes just if they are the same. Headers that come in. Numbers and signatures read: what is read of what was written, and back. Header: what header.Read answers, in plain words; read of what was written, and back. -/
import Derived.Deep.Slices
import Derived.Lib.SmallJoins
import Derived.OpenShut
import Derived.Laws.IdiomArrays
import Derived.Test.YtefmlbckbhlgdaaRa17
import Derived.Test.YtefmlbckbhlgdaaRa22
namespace Go.Proofs.Ytefmlbckbhlgdaa
open Go.RowKit Go.Shelf
set_option maxRecDepth 100000
noncomputable def likeH (h k : Hd) : Bool := @decide (h = k) (Classical.propDecidable _)
theorem likeH_yes {h k : Hd} (e : h = k) : likeH h k = true := @decide_eq_true _ (Classical.propDecidable _) e
theorem likeH_no {h k : Hd} (e : ¬ h = k) : likeH h k = false := @decide_eq_false _ (Classical.propDecidable _) e

set_option maxHeartbeats 8000000 in
theorem hlike_any (h k : Hd) (sv gv sv2 gv2 : Value) (w : World) (hh : HdAt w h sv gv) (hk : HdAt w k sv2 gv2) : Calls Try.prog 10 #[.agg (hdc h sv gv), .agg (hdc k sv2 gv2)] w fun e w' => e = .returned (.bool (likeH h k)) ∧ Below w.heap.size w w' := by
  have HY := Lib.hid (@likeH_yes h k)
  have HN := Lib.hid (@likeH_no h k)
  generalize likeH h k = R at *
  obtain ⟨pS, cS, rfl, s1, s2⟩ := RowE.shape encS hh.1
  obtain ⟨pG, cG, rfl, s3, s4⟩ := RowE.shape encG hh.2.1
  obtain ⟨pS2, cS2, rfl, s5, s6⟩ := RowE.shape encS hk.1
  obtain ⟨pG2, cG2, rfl, s7, s8⟩ := RowE.shape encG hk.2.1
  have HS := Lib.hid hh.1
  have HG := Lib.hid hh.2.1
  have HS2 := Lib.hid hk.1
  have HG2 := Lib.hid hk.2.1
  clear hh hk
  obtain ⟨pa, ht, ro, tx, pr, va, val, vo, ad, rd, se⟩ := h
  obtain ⟨pa2, ht2, ro2, tx2, pr2, va2, val2, vo2, ad2, rd2, se2⟩ := k
  simp only at s1 s3 s5 s7 HS HG HS2 HG2
  unfold maxLen at s2 s4 s6 s8
  have R1 := Lib.hid ((RowAt.new w #[.string pa, .int .u64 ht, .string ro, .string tx, .string pr, .string va, .slice pS val.length cS, .string vo, .bool ad, .int .u64 rd, .slice pG se.length cG] 26).alloc (.cells #[.string pa2, .int .u64 ht2, .string ro2, .string tx2, .string pr2, .string va2, .slice pS2 val2.length cS2, .string vo2, .bool ad2, .int .u64 rd2, .slice pG2 se2.length cG2] 26))
  have R2 := Lib.hid (RowAt.new' (w.alloc (.cells #[.string pa, .int .u64 ht, .string ro, .string tx, .string pr, .string va, .slice pS val.length cS, .string vo, .bool ad, .int .u64 rd, .slice pG se.length cG] 26)) #[.string pa2, .int .u64 ht2, .string ro2, .string tx2, .string pr2, .string va2, .slice pS2 val2.length cS2, .string vo2, .bool ad2, .int .u64 rd2, .slice pG2 se2.length cG2] 26 (k := w.heap.size + 1) (by simp))
  have HB := Lib.hid (bel2 w (.cells #[.string pa, .int .u64 ht, .string ro, .string tx, .string pr, .string va, .slice pS val.length cS, .string vo, .bool ad, .int .u64 rd, .slice pG se.length cG] 26) (.cells #[.string pa2, .int .u64 ht2, .string ro2, .string tx2, .string pr2, .string va2, .slice pS2 val2.length cS2, .string vo2, .bool ad2, .int .u64 rd2, .slice pG2 se2.length cG2] 26))
  obtain ⟨x0, x1, x2, x3, x4, x5, x6, x7, x8, x9, x10⟩ := R1.out.c11
  obtain ⟨y0, y1, y2, y3, y4, y5, y6, y7, y8, y9, y10⟩ := R2.out.c11
  by_cases e0 : pa = pa2
  · subst e0
    by_cases e1 : ht = ht2
    · subst e1
      by_cases e2 : ro = ro2
      · subst e2
        by_cases e3 : tx = tx2
        · subst e3
          by_cases e4 : pr = pr2
          · subst e4
            by_cases e5 : va = va2
            · subst e5
              by_cases e6 : vo = vo2
              · subst e6
                by_cases e7 : ad = ad2
                · subst e7
                  by_cases e8 : rd = rd2
                  · subst e8
                    by_cases l1 : val.length = val2.length
                    · by_cases l2 : se.length = se2.length
                      · have hyes : val = val2 → se = se2 → R = true := fun e1 e2 => HY.out (by rw [e1, e2])
                        have hno1 : val ≠ val2 → R = false := fun e => HN.out (fun h => e (by injection h))
                        have hno2 : se ≠ se2 → R = false := fun e => HN.out (fun h => e (by injection h))
                        have HY2 := Lib.hid hyes
                        have HN1 := Lib.hid hno1
                        have HN2 := Lib.hid hno2
                        clear HY HN hyes hno1 hno2
                        rw [← l1] at s5 HS2 R1 R2 HB y6 ⊢
                        rw [← l2] at s7 HG2 R1 R2 HB y10 ⊢
                        have L1 := Lib.hid l1
                        have L2 := Lib.hid l2
                        clear l1 l2
                        go_enter Try.func10, Try.ntmps10
                        go_upto_region 6 with (fail)
                        clear x0 x1 x2 x3 x4 x5 x6 x7 x8 x9 x10 y0 y1 y2 y3 y4 y5 y6 y7 y8 y9 y10
                        generalize (w.alloc (.cells #[.string pa, .int .u64 ht, .string ro, .string tx, .string pr, .string va, .slice pS val.length cS, .string vo, .bool ad, .int .u64 rd, .slice pG se.length cG] 26)).alloc (.cells #[.string pa, .int .u64 ht, .string ro, .string tx, .string pr, .string va, .slice pS2 val.length cS2, .string vo, .bool ad, .int .u64 rd, .slice pG2 se.length cG2] 26) = W at *
                        go_loopw [87] (fun s87 wr => ∃ (i : Nat), i ≤ val.length ∧ s87 = .int .i64 i ∧ Hid (val.take i = val2.take i) ∧ Hid (Below W.heap.size W wr)) (fun s _ => val.length - (intOf s).toNat)
                        case atStart => exact ⟨0, Nat.zero_le _, rfl, Lib.hid (by simp), Lib.hid (Below.refl _ _)⟩
                        case round =>
                          obtain ⟨i, hi, rfl, hp, hb⟩ := hrel
                          have HP := Lib.hid hp.out
                          have HBW := Lib.hid hb.out
                          clear hp hb
                          by_cases hlt : i < val.length
                          · obtain ⟨x, hx⟩ : ∃ x, val[i]? = some x := ⟨_, List.getElem?_eq_getElem hlt⟩
                            obtain ⟨y, hy⟩ : ∃ y, val2[i]? = some y := ⟨_, List.getElem?_eq_getElem (by have := L1.out; omega)⟩
                            obtain ⟨-, -, -, hat⟩ := RowE.atS HS.out
                            obtain ⟨a, rfl, ha⟩ := hat i x hx
                            obtain ⟨-, -, -, hat2⟩ := RowE.atS (show RowE encS w (.slice pS2 val.length cS2) val2 from HS2.out)
                            obtain ⟨b, rfl, hb2⟩ := hat2 i y hy
                            have m1 : ∀ u : Later wr, u.w.cell? (a.add i) = some (.string x) := fun u => by rw [u.below.cell (by have := HBW.out.size; have := HB.out.size; have := block_lt_of_cell ha; omega), HBW.out.cell (by have := HB.out.size; have := block_lt_of_cell ha; omega), HB.out.cell (block_lt_of_cell ha)]; exact ha
                            have m2 : ∀ u : Later wr, u.w.cell? (b.add i) = some (.string y) := fun u => by rw [u.below.cell (by have := HBW.out.size; have := HB.out.size; have := block_lt_of_cell hb2; omega), HBW.out.cell (by have := HB.out.size; have := block_lt_of_cell hb2; omega), HB.out.cell (block_lt_of_cell hb2)]; exact hb2
                            have p1 : ∀ u : Later wr, u.w.cell? ⟨w.heap.size, 6, none⟩ = some (.slice (some a) val.length cS) := fun u => ((R1.out.belowS HBW.out).later u).cell 6
                            have p2 : ∀ u : Later wr, u.w.cell? ⟨w.heap.size + 1, 6, none⟩ = some (.slice (some b) val.length cS2) := fun u => ((R2.out.belowS HBW.out).later u).cell 6
                            have HNX : Hid (x ≠ y → R = false) := Lib.hid (fun e => HN1.out (fun h => e (by rw [h, hy] at hx; injection hx with hx; exact hx.symm)))
                            have HPX : Hid (x = y → val.take (i + 1) = val2.take (i + 1)) := Lib.hid (fun e => by rw [List.take_add_one, List.take_add_one, hx, hy, HP.out, e])
                            clear hat hat2 ha hb2 hx hy
                            by_cases e : x = y
                            · have HP2 := Lib.hid (HPX.out e)
                              subst e
                              clear HPX HNX
                              go_upto_region 8 with (fail)
                              (refine region_later mix ?hB ?_; case hB => kernel_rfl); (repeat (first | go_big_quiet_step ((fail)) | quiet_step ((fail)))); (refine wpQuiet_nil ?_; rintro _ ⟨u, rfl⟩)
                              clear m1 m2 p1 p2
                              have HBX := Lib.hid (HBW.out.trans (u.below.mono HBW.out.size))
                              clear HBW
                              generalize u.w = wu at *
                              go_wp2
                              exact ⟨⟨i + 1, by omega, by simp, HP2, HBX⟩, by simp [intOf]; omega⟩
                            · have hno := Lib.hid (HNX.out e)
                              have q : (x.toList == y.toList) = false := beq_eq_false_iff_ne.2 (fun h => e (by rw [toList_bl, toList_bl] at h; exact bl_inj h))
                              clear e HPX HNX
                              go_upto_region 8 with (fail)
                              (refine region_later mix ?hB ?_; case hB => kernel_rfl); (repeat (first | go_big_quiet_step ((fail)) | quiet_step ((fail)))); (refine wpQuiet_nil ?_; rintro _ ⟨u, rfl⟩)
                              clear m1 m2 p1 p2
                              have HBX := Lib.hid (HBW.out.trans (u.below.mono HBW.out.size))
                              clear HBW
                              generalize u.w = wu at *
                              go_wp2
                              go_ret
                              exact ⟨by rw [hno.out]; rfl, HB.out.trans (HBX.out.mono HB.out.size)⟩
                          · obtain rfl : i = val.length := by omega
                            have hval : val = val2 := by have := HP.out; rwa [List.take_length, L1.out, List.take_length] at this
                            have HVE := Lib.hid hval
                            clear hval HP hlt hi
                            have x10 : wr.cell? ⟨w.heap.size, 10, none⟩ = some (.slice pG se.length cG) := (R1.out.belowS HBW.out).cell 10
                            go_upto_region 12 with (fail)
                            clear x10
                            go_loopw [105] (fun s105 wr => ∃ (i : Nat), i ≤ se.length ∧ s105 = .int .i64 i ∧ Hid (se.take i = se2.take i) ∧ Hid (Below W.heap.size W wr)) (fun s _ => se.length - (intOf s).toNat)
                            case atStart => exact ⟨0, Nat.zero_le _, rfl, Lib.hid (by simp), HBW⟩
                            case round =>
                              clear HBW
                              obtain ⟨i, hi, rfl, hp, hb⟩ := hrel
                              have HP := Lib.hid hp.out
                              have HBW := Lib.hid hb.out
                              clear hp hb
                              by_cases hlt : i < se.length
                              · obtain ⟨x, hx⟩ : ∃ x, se[i]? = some x := ⟨_, List.getElem?_eq_getElem hlt⟩
                                obtain ⟨y, hy⟩ : ∃ y, se2[i]? = some y := ⟨_, List.getElem?_eq_getElem (by have := L2.out; omega)⟩
                                obtain ⟨a, rfl, ha⟩ := HG.out.atG i x hx
                                obtain ⟨b, rfl, hb2⟩ := (show RowE encG w (.slice pG2 se.length cG2) se2 from HG2.out).atG i y hy
                                have keyu : ∀ {q : Addr} {v : Value}, w.cell? q = some v → ∀ u : Later wr, u.w.cell? q = some v := fun ha u => by rw [u.below.cell (by have := HBW.out.size; have := HB.out.size; have := block_lt_of_cell ha; omega), HBW.out.cell (by have := HB.out.size; have := block_lt_of_cell ha; omega), HB.out.cell (block_lt_of_cell ha)]; exact ha
                                have HNX : Hid (x ≠ y → R = false) := Lib.hid (fun e => HN2.out (fun h => e (by rw [h, hy] at hx; injection hx with hx; exact hx.symm)))
                                have HPX : Hid (x = y → se.take (i + 1) = se2.take (i + 1)) := Lib.hid (fun e => by rw [List.take_add_one, List.take_add_one, hx, hy, HP.out, e])
                                have p1 : ∀ u : Later wr, u.w.cell? ⟨w.heap.size, 10, none⟩ = some (.slice (some a) se.length cG) := fun u => ((R1.out.belowS HBW.out).later u).cell 10
                                have p2 : ∀ u : Later wr, u.w.cell? ⟨w.heap.size + 1, 10, none⟩ = some (.slice (some b) se.length cG2) := fun u => ((R2.out.belowS HBW.out).later u).cell 10
                                clear hx hy
                                obtain ⟨⟨r0, r1, r2, r3⟩, ⟨t0, t1, t2, t3⟩, v⟩ := x
                                obtain ⟨⟨r0', r1', r2', r3'⟩, ⟨t0', t1', t2', t3'⟩, v'⟩ := y
                                have m0 : ∀ u : Later wr, u.w.cell? (a.add (i * 9)) = some (.int .u64 r0) := fun u => keyu (ha 0 _ rfl) u
                                have m1 : ∀ u : Later wr, u.w.cell? ⟨(a.add (i * 9)).block, (a.add (i * 9)).off + 1, none⟩ = some (.int .u64 r1) := fun u => keyu (ha 1 _ rfl) u
                                have m2 : ∀ u : Later wr, u.w.cell? ⟨(a.add (i * 9)).block, (a.add (i * 9)).off + 2, none⟩ = some (.int .u64 r2) := fun u => keyu (ha 2 _ rfl) u
                                have m3 : ∀ u : Later wr, u.w.cell? ⟨(a.add (i * 9)).block, (a.add (i * 9)).off + 3, none⟩ = some (.int .u64 r3) := fun u => keyu (ha 3 _ rfl) u
                                have m4 : ∀ u : Later wr, u.w.cell? ⟨(a.add (i * 9)).block, (a.add (i * 9)).off + 4, none⟩ = some (.int .u64 t0) := fun u => keyu (ha 4 _ rfl) u
                                have m5 : ∀ u : Later wr, u.w.cell? ⟨(a.add (i * 9)).block, (a.add (i * 9)).off + 5, none⟩ = some (.int .u64 t1) := fun u => keyu (ha 5 _ rfl) u
                                have m6 : ∀ u : Later wr, u.w.cell? ⟨(a.add (i * 9)).block, (a.add (i * 9)).off + 6, none⟩ = some (.int .u64 t2) := fun u => keyu (ha 6 _ rfl) u
                                have m7 : ∀ u : Later wr, u.w.cell? ⟨(a.add (i * 9)).block, (a.add (i * 9)).off + 7, none⟩ = some (.int .u64 t3) := fun u => keyu (ha 7 _ rfl) u
                                have m8 : ∀ u : Later wr, u.w.cell? ⟨(a.add (i * 9)).block, (a.add (i * 9)).off + 8, none⟩ = some (.int .i64 v) := fun u => keyu (ha 8 _ rfl) u
                                have n0 : ∀ u : Later wr, u.w.cell? (b.add (i * 9)) = some (.int .u64 r0') := fun u => keyu (hb2 0 _ rfl) u
                                have n1 : ∀ u : Later wr, u.w.cell? ⟨(b.add (i * 9)).block, (b.add (i * 9)).off + 1, none⟩ = some (.int .u64 r1') := fun u => keyu (hb2 1 _ rfl) u
                                have n2 : ∀ u : Later wr, u.w.cell? ⟨(b.add (i * 9)).block, (b.add (i * 9)).off + 2, none⟩ = some (.int .u64 r2') := fun u => keyu (hb2 2 _ rfl) u
                                have n3 : ∀ u : Later wr, u.w.cell? ⟨(b.add (i * 9)).block, (b.add (i * 9)).off + 3, none⟩ = some (.int .u64 r3') := fun u => keyu (hb2 3 _ rfl) u
                                have n4 : ∀ u : Later wr, u.w.cell? ⟨(b.add (i * 9)).block, (b.add (i * 9)).off + 4, none⟩ = some (.int .u64 t0') := fun u => keyu (hb2 4 _ rfl) u
                                have n5 : ∀ u : Later wr, u.w.cell? ⟨(b.add (i * 9)).block, (b.add (i * 9)).off + 5, none⟩ = some (.int .u64 t1') := fun u => keyu (hb2 5 _ rfl) u
                                have n6 : ∀ u : Later wr, u.w.cell? ⟨(b.add (i * 9)).block, (b.add (i * 9)).off + 6, none⟩ = some (.int .u64 t2') := fun u => keyu (hb2 6 _ rfl) u
                                have n7 : ∀ u : Later wr, u.w.cell? ⟨(b.add (i * 9)).block, (b.add (i * 9)).off + 7, none⟩ = some (.int .u64 t3') := fun u => keyu (hb2 7 _ rfl) u
                                have n8 : ∀ u : Later wr, u.w.cell? ⟨(b.add (i * 9)).block, (b.add (i * 9)).off + 8, none⟩ = some (.int .i64 v') := fun u => keyu (hb2 8 _ rfl) u
                                clear keyu ha hb2
                                have hq := fun w => eqSig_run ((r0, r1, r2, r3), (t0, t1, t2, t3), v) ((r0', r1', r2', r3'), (t0', t1', t2', t3'), v') w
                                by_cases e : (((r0, r1, r2, r3), (t0, t1, t2, t3), v) : Sg) = ((r0', r1', r2', r3'), (t0', t1', t2', t3'), v')
                                · have HP2 := Lib.hid (HPX.out e)
                                  rw [decide_eq_true e] at hq
                                  clear HPX HNX e
                                  go_upto_region 14 with (fail)
                                  (refine region_later mix ?hB ?_; case hB => kernel_rfl); (repeat (first | go_big_quiet_step ((fail)) | quiet_step ((fail)))); (refine wpQuiet_nil ?_; rintro _ ⟨u, rfl⟩)
                                  clear m0 m1 m2 m3 m4 m5 m6 m7 m8 n0 n1 n2 n3 n4 n5 n6 n7 n8 p1 p2 hq
                                  have HBX := Lib.hid (HBW.out.trans (u.below.mono HBW.out.size))
                                  clear HBW
                                  generalize u.w = wu at *
                                  go_wp2
                                  exact ⟨⟨i + 1, by omega, by simp, HP2, HBX⟩, by simp [intOf]; omega⟩
                                · have hno := Lib.hid (HNX.out e)
                                  rw [decide_eq_false e] at hq
                                  clear HPX HNX e
                                  go_upto_region 14 with (fail)
                                  (refine region_later mix ?hB ?_; case hB => kernel_rfl); (repeat (first | go_big_quiet_step ((fail)) | quiet_step ((fail)))); (refine wpQuiet_nil ?_; rintro _ ⟨u, rfl⟩)
                                  clear m0 m1 m2 m3 m4 m5 m6 m7 m8 n0 n1 n2 n3 n4 n5 n6 n7 n8 p1 p2 hq
                                  have HBX := Lib.hid (HBW.out.trans (u.below.mono HBW.out.size))
                                  clear HBW
                                  generalize u.w = wu at *
                                  go_wp2
                                  go_ret
                                  exact ⟨by rw [hno.out]; rfl, HB.out.trans (HBX.out.mono HB.out.size)⟩
                              · obtain rfl : i = se.length := by omega
                                have hse : se = se2 := by have := HP.out; rwa [List.take_length, L2.out, List.take_length] at this
                                have hr := HY2.out HVE.out hse
                                clear hse HP hlt hi
                                go_wp2
                                go_ret
                                exact ⟨by first | rfl | (rw [hr]; rfl), HB.out.trans (HBW.out.mono HB.out.size)⟩
                      · have hno := HN.out (fun h => l2 (by injection h with _ _ _ _ _ _ _ _ _ _ h; rw [h]))
                        have q : ((se.length : Int) != (se2.length : Int)) = true := bne_iff_ne.2 (by omega)
                        rw [← l1] at R1 R2 HB y6 ⊢
                        clear l2 l1
                        go_enter Try.func10, Try.ntmps10
                        go_wp2
                        go_ret
                        exact ⟨by first | rfl | (rw [hno]; rfl), HB.out⟩
                    · have hno := HN.out (fun h => l1 (by injection h with _ _ _ _ _ _ h; rw [h]))
                      have q : ((val.length : Int) != (val2.length : Int)) = true := bne_iff_ne.2 (by omega)
                      clear l1
                      go_enter Try.func10, Try.ntmps10
                      go_wp2
                      go_ret
                      exact ⟨by first | rfl | (rw [hno]; rfl), HB.out⟩
                  · have hno := HN.out (fun h => e8 (by injection h))
                    have q : (rd == rd2) = false := by simpa using e8
                    have q' : (rd != rd2) = true := by simpa using e8
                    clear e8
                    go_enter Try.func10, Try.ntmps10
                    go_wp2
                    go_ret
                    exact ⟨by first | rfl | (rw [hno]; rfl), HB.out⟩
                · have hno := HN.out (fun h => e7 (by injection h))
                  have q : (ad == ad2) = false := by simpa using e7
                  have q' : (ad != ad2) = true := by simpa using e7
                  clear e7
                  go_enter Try.func10, Try.ntmps10
                  go_wp2
                  go_ret
                  exact ⟨by first | rfl | (rw [hno]; rfl), HB.out⟩
              · have hno := HN.out (fun h => e6 (by injection h))
                have q : (vo.toList == vo2.toList) = false := beq_eq_false_iff_ne.2 (fun h => e6 (by rw [toList_bl, toList_bl] at h; exact bl_inj h))
                clear e6
                go_enter Try.func10, Try.ntmps10
                go_wp2
                go_ret
                exact ⟨by first | rfl | (rw [hno]; rfl), HB.out⟩
            · have hno := HN.out (fun h => e5 (by injection h))
              have q : (va.toList == va2.toList) = false := beq_eq_false_iff_ne.2 (fun h => e5 (by rw [toList_bl, toList_bl] at h; exact bl_inj h))
              clear e5
              go_enter Try.func10, Try.ntmps10
              go_wp2
              go_ret
              exact ⟨by first | rfl | (rw [hno]; rfl), HB.out⟩
          · have hno := HN.out (fun h => e4 (by injection h))
            have q : (pr.toList == pr2.toList) = false := beq_eq_false_iff_ne.2 (fun h => e4 (by rw [toList_bl, toList_bl] at h; exact bl_inj h))
            clear e4
            go_enter Try.func10, Try.ntmps10
            go_wp2
            go_ret
            exact ⟨by first | rfl | (rw [hno]; rfl), HB.out⟩
        · have hno := HN.out (fun h => e3 (by injection h))
          have q : (tx.toList == tx2.toList) = false := beq_eq_false_iff_ne.2 (fun h => e3 (by rw [toList_bl, toList_bl] at h; exact bl_inj h))
          clear e3
          go_enter Try.func10, Try.ntmps10
          go_wp2
          go_ret
          exact ⟨by first | rfl | (rw [hno]; rfl), HB.out⟩
      · have hno := HN.out (fun h => e2 (by injection h))
        have q : (ro.toList == ro2.toList) = false := beq_eq_false_iff_ne.2 (fun h => e2 (by rw [toList_bl, toList_bl] at h; exact bl_inj h))
        clear e2
        go_enter Try.func10, Try.ntmps10
        go_wp2
        go_ret
        exact ⟨by first | rfl | (rw [hno]; rfl), HB.out⟩
    · have hno := HN.out (fun h => e1 (by injection h))
      have q : (ht == ht2) = false := by simpa using e1
      have q' : (ht != ht2) = true := by simpa using e1
      clear e1
      go_enter Try.func10, Try.ntmps10
      go_wp2
      go_ret
      exact ⟨by first | rfl | (rw [hno]; rfl), HB.out⟩
  · have hno := HN.out (fun h => e0 (by injection h))
    have q : (pa.toList == pa2.toList) = false := beq_eq_false_iff_ne.2 (fun h => e0 (by rw [toList_bl, toList_bl] at h; exact bl_inj h))
    clear e0
    go_enter Try.func10, Try.ntmps10
    go_wp2
    go_ret
    exact ⟨by first | rfl | (rw [hno]; rfl), HB.out⟩
end Go.Proofs.Ytefmlbckbhlgdaa
namespace Go.Proofs.Ytefmlbckbhlgdaa
open Go.RowKit
set_option maxRecDepth 100000
theorem word_eq {x y : Int} (hx : WordOk x) (hy : WordOk y) (h0 : x % 256 = y % 256) (h1 : x / 256 % 256 = y / 256 % 256) (h2 : x / 65536 % 256 = y / 65536 % 256) (h3 : x / 16777216 % 256 = y / 16777216 % 256) (h4 : x / 4294967296 % 256 = y / 4294967296 % 256)
    (h5 : x / 1099511627776 % 256 = y / 1099511627776 % 256) (h6 : x / 281474976710656 % 256 = y / 281474976710656 % 256) (h7 : x / 72057594037927936 % 256 = y / 72057594037927936 % 256) : x = y := by
  obtain ⟨a1, a2⟩ := hx
  obtain ⟨b1, b2⟩ := hy
  have k7 : x / 72057594037927936 = y / 72057594037927936 := by omega
  have k6 : x / 281474976710656 = y / 281474976710656 := by omega
  have k5 : x / 1099511627776 = y / 1099511627776 := by omega
  have k4 : x / 4294967296 = y / 4294967296 := by omega
  have k3 : x / 16777216 = y / 16777216 := by omega
  have k2 : x / 65536 = y / 65536 := by omega
  have k1 : x / 256 = y / 256 := by omega
  omega

theorem byte_eq {x y : Int} (_ : WordOk x) (_ : WordOk y) (d : Int) (_ : 0 < d) (h : UInt8.ofNat (x / d % 256).toNat = UInt8.ofNat (y / d % 256).toNat) : x / d % 256 = y / d % 256 := by
  have h' := congrArg UInt8.toNat h
  rw [UInt8.toNat_ofNat', UInt8.toNat_ofNat'] at h'
  have p1 : 0 ≤ x / d % 256 := Int.emod_nonneg _ (by omega)
  have p2 : x / d % 256 < 256 := Int.emod_lt_of_pos _ (by omega)
  have p3 : 0 ≤ y / d % 256 := Int.emod_nonneg _ (by omega)
  have p4 : y / d % 256 < 256 := Int.emod_lt_of_pos _ (by omega)
  omega

theorem bytesU_inj {a b : U4} (ha : a.ok) (hb : b.ok) (h : bytesU a = bytesU b) : a = b := by
  have hl : (List.range 32).map (byteAt a) = (List.range 32).map (byteAt b) := by
    have := congrArg (fun s : ByteArray => s.data.toList) h
    simpa [bytesU, fillL_full] using this
  have hk : ∀ k, k < 32 → byteAt a k = byteAt b k := fun k hk => by
    have := congrArg (fun l : List UInt8 => l[k]?) hl
    simpa [hk] using this
  obtain ⟨a0, a1, a2, a3⟩ := a
  obtain ⟨b0, b1, b2, b3⟩ := b
  obtain ⟨u0, u1, u2, u3⟩ := ha
  obtain ⟨v0, v1, v2, v3⟩ := hb
  simp only at u0 u1 u2 u3 v0 v1 v2 v3
  have g : ∀ (j : Nat) (x y : Int), WordOk x → WordOk y → (∀ m, m < 8 → UInt8.ofNat (x / 2 ^ (8 * m) % 256).toNat = UInt8.ofNat (y / 2 ^ (8 * m) % 256).toNat) → x = y := fun _ x y hx hy hm => by
    refine word_eq hx hy ?_ ?_ ?_ ?_ ?_ ?_ ?_ ?_
    · have := byte_eq hx hy 1 (by omega) (by simpa using hm 0 (by omega)); simpa using this
    · exact byte_eq hx hy 256 (by omega) (by simpa using hm 1 (by omega))
    · exact byte_eq hx hy 65536 (by omega) (by simpa using hm 2 (by omega))
    · exact byte_eq hx hy 16777216 (by omega) (by simpa using hm 3 (by omega))
    · exact byte_eq hx hy 4294967296 (by omega) (by simpa using hm 4 (by omega))
    · exact byte_eq hx hy 1099511627776 (by omega) (by simpa using hm 5 (by omega))
    · exact byte_eq hx hy 281474976710656 (by omega) (by simpa using hm 6 (by omega))
    · exact byte_eq hx hy 72057594037927936 (by omega) (by simpa using hm 7 (by omega))
  have e0 := g 0 a0 b0 u0 v0 fun m hm => by
    have := hk (31 - m) (by omega)
    unfold byteAt at this
    rw [show (31 - (31 - m)) / 8 = 0 by omega, show (31 - (31 - m)) % 8 = m by omega] at this
    exact this
  have e1 := g 1 a1 b1 u1 v1 fun m hm => by
    have := hk (23 - m) (by omega)
    unfold byteAt at this
    rw [show (31 - (23 - m)) / 8 = 1 by omega, show (31 - (23 - m)) % 8 = m by omega] at this
    exact this
  have e2 := g 2 a2 b2 u2 v2 fun m hm => by
    have := hk (15 - m) (by omega)
    unfold byteAt at this
    rw [show (31 - (15 - m)) / 8 = 2 by omega, show (31 - (15 - m)) % 8 = m by omega] at this
    exact this
  have e3 := g 3 a3 b3 u3 v3 fun m hm => by
    have := hk (7 - m) (by omega)
    unfold byteAt at this
    rw [show (31 - (7 - m)) / 8 = 3 by omega, show (31 - (7 - m)) % 8 = m by omega] at this
    exact this
  rw [e0, e1, e2, e3]

theorem bl_app (a b : ByteArray) : bl (a ++ b) = bl a ++ bl b := by
  show (a ++ b).data.toList = a.data.toList ++ b.data.toList
  rw [ByteArray.data_append, Array.toList_append]
end Go.Proofs.Ytefmlbckbhlgdaa
namespace Go.Proofs.Ytefmlbckbhlgdaa
open Go.RowKit Go.ChangeShapes Go.WideShapes Go.ChangeAt
end Go.Proofs.Ytefmlbckbhlgdaa
namespace Go.Proofs.Ytefmlbckbhlgdaa
open Go.RowKit Go.Shelf
set_option maxRecDepth 100000
set_option maxHeartbeats 2000000 in
theorem pw_byte (f : Nat → Nat) (hf : ∀ k, f k < 256) (h0 : pw f 32 0 = f 24 * 72057594037927936 + f 25 * 281474976710656 + f 26 * 1099511627776 + f 27 * 4294967296 + f 28 * 16777216 + f 29 * 65536 + f 30 * 256 + f 31)
    (h1 : pw f 32 1 = f 16 * 72057594037927936 + f 17 * 281474976710656 + f 18 * 1099511627776 + f 19 * 4294967296 + f 20 * 16777216 + f 21 * 65536 + f 22 * 256 + f 23)
    (h2 : pw f 32 2 = f 8 * 72057594037927936 + f 9 * 281474976710656 + f 10 * 1099511627776 + f 11 * 4294967296 + f 12 * 16777216 + f 13 * 65536 + f 14 * 256 + f 15)
    (h3 : pw f 32 3 = f 0 * 72057594037927936 + f 1 * 281474976710656 + f 2 * 1099511627776 + f 3 * 4294967296 + f 4 * 16777216 + f 5 * 65536 + f 6 * 256 + f 7) :
    ∀ k, k < 32 → pw f 32 ((31 - k) / 8) / 2 ^ (8 * ((31 - k) % 8)) % 256 = f k
  | 0, _ => by show pw f 32 3 / 72057594037927936 % 256 = f 0; rw [h3]; have := hf 0; have := hf 1; have := hf 2; have := hf 3; have := hf 4; have := hf 5; have := hf 6; have := hf 7; omega
  | 1, _ => by show pw f 32 3 / 281474976710656 % 256 = f 1; rw [h3]; have := hf 0; have := hf 1; have := hf 2; have := hf 3; have := hf 4; have := hf 5; have := hf 6; have := hf 7; omega
  | 2, _ => by show pw f 32 3 / 1099511627776 % 256 = f 2; rw [h3]; have := hf 0; have := hf 1; have := hf 2; have := hf 3; have := hf 4; have := hf 5; have := hf 6; have := hf 7; omega
  | 3, _ => by show pw f 32 3 / 4294967296 % 256 = f 3; rw [h3]; have := hf 0; have := hf 1; have := hf 2; have := hf 3; have := hf 4; have := hf 5; have := hf 6; have := hf 7; omega
  | 4, _ => by show pw f 32 3 / 16777216 % 256 = f 4; rw [h3]; have := hf 0; have := hf 1; have := hf 2; have := hf 3; have := hf 4; have := hf 5; have := hf 6; have := hf 7; omega
  | 5, _ => by show pw f 32 3 / 65536 % 256 = f 5; rw [h3]; have := hf 0; have := hf 1; have := hf 2; have := hf 3; have := hf 4; have := hf 5; have := hf 6; have := hf 7; omega
  | 6, _ => by show pw f 32 3 / 256 % 256 = f 6; rw [h3]; have := hf 0; have := hf 1; have := hf 2; have := hf 3; have := hf 4; have := hf 5; have := hf 6; have := hf 7; omega
  | 7, _ => by show pw f 32 3 / 1 % 256 = f 7; rw [h3]; have := hf 0; have := hf 1; have := hf 2; have := hf 3; have := hf 4; have := hf 5; have := hf 6; have := hf 7; omega
  | 8, _ => by show pw f 32 2 / 72057594037927936 % 256 = f 8; rw [h2]; have := hf 8; have := hf 9; have := hf 10; have := hf 11; have := hf 12; have := hf 13; have := hf 14; have := hf 15; omega
  | 9, _ => by show pw f 32 2 / 281474976710656 % 256 = f 9; rw [h2]; have := hf 8; have := hf 9; have := hf 10; have := hf 11; have := hf 12; have := hf 13; have := hf 14; have := hf 15; omega
  | 10, _ => by show pw f 32 2 / 1099511627776 % 256 = f 10; rw [h2]; have := hf 8; have := hf 9; have := hf 10; have := hf 11; have := hf 12; have := hf 13; have := hf 14; have := hf 15; omega
  | 11, _ => by show pw f 32 2 / 4294967296 % 256 = f 11; rw [h2]; have := hf 8; have := hf 9; have := hf 10; have := hf 11; have := hf 12; have := hf 13; have := hf 14; have := hf 15; omega
  | 12, _ => by show pw f 32 2 / 16777216 % 256 = f 12; rw [h2]; have := hf 8; have := hf 9; have := hf 10; have := hf 11; have := hf 12; have := hf 13; have := hf 14; have := hf 15; omega
  | 13, _ => by show pw f 32 2 / 65536 % 256 = f 13; rw [h2]; have := hf 8; have := hf 9; have := hf 10; have := hf 11; have := hf 12; have := hf 13; have := hf 14; have := hf 15; omega
  | 14, _ => by show pw f 32 2 / 256 % 256 = f 14; rw [h2]; have := hf 8; have := hf 9; have := hf 10; have := hf 11; have := hf 12; have := hf 13; have := hf 14; have := hf 15; omega
  | 15, _ => by show pw f 32 2 / 1 % 256 = f 15; rw [h2]; have := hf 8; have := hf 9; have := hf 10; have := hf 11; have := hf 12; have := hf 13; have := hf 14; have := hf 15; omega
  | 16, _ => by show pw f 32 1 / 72057594037927936 % 256 = f 16; rw [h1]; have := hf 16; have := hf 17; have := hf 18; have := hf 19; have := hf 20; have := hf 21; have := hf 22; have := hf 23; omega
  | 17, _ => by show pw f 32 1 / 281474976710656 % 256 = f 17; rw [h1]; have := hf 16; have := hf 17; have := hf 18; have := hf 19; have := hf 20; have := hf 21; have := hf 22; have := hf 23; omega
  | 18, _ => by show pw f 32 1 / 1099511627776 % 256 = f 18; rw [h1]; have := hf 16; have := hf 17; have := hf 18; have := hf 19; have := hf 20; have := hf 21; have := hf 22; have := hf 23; omega
  | 19, _ => by show pw f 32 1 / 4294967296 % 256 = f 19; rw [h1]; have := hf 16; have := hf 17; have := hf 18; have := hf 19; have := hf 20; have := hf 21; have := hf 22; have := hf 23; omega
  | 20, _ => by show pw f 32 1 / 16777216 % 256 = f 20; rw [h1]; have := hf 16; have := hf 17; have := hf 18; have := hf 19; have := hf 20; have := hf 21; have := hf 22; have := hf 23; omega
  | 21, _ => by show pw f 32 1 / 65536 % 256 = f 21; rw [h1]; have := hf 16; have := hf 17; have := hf 18; have := hf 19; have := hf 20; have := hf 21; have := hf 22; have := hf 23; omega
  | 22, _ => by show pw f 32 1 / 256 % 256 = f 22; rw [h1]; have := hf 16; have := hf 17; have := hf 18; have := hf 19; have := hf 20; have := hf 21; have := hf 22; have := hf 23; omega
  | 23, _ => by show pw f 32 1 / 1 % 256 = f 23; rw [h1]; have := hf 16; have := hf 17; have := hf 18; have := hf 19; have := hf 20; have := hf 21; have := hf 22; have := hf 23; omega
  | 24, _ => by show pw f 32 0 / 72057594037927936 % 256 = f 24; rw [h0]; have := hf 24; have := hf 25; have := hf 26; have := hf 27; have := hf 28; have := hf 29; have := hf 30; have := hf 31; omega
  | 25, _ => by show pw f 32 0 / 281474976710656 % 256 = f 25; rw [h0]; have := hf 24; have := hf 25; have := hf 26; have := hf 27; have := hf 28; have := hf 29; have := hf 30; have := hf 31; omega
  | 26, _ => by show pw f 32 0 / 1099511627776 % 256 = f 26; rw [h0]; have := hf 24; have := hf 25; have := hf 26; have := hf 27; have := hf 28; have := hf 29; have := hf 30; have := hf 31; omega
  | 27, _ => by show pw f 32 0 / 4294967296 % 256 = f 27; rw [h0]; have := hf 24; have := hf 25; have := hf 26; have := hf 27; have := hf 28; have := hf 29; have := hf 30; have := hf 31; omega
  | 28, _ => by show pw f 32 0 / 16777216 % 256 = f 28; rw [h0]; have := hf 24; have := hf 25; have := hf 26; have := hf 27; have := hf 28; have := hf 29; have := hf 30; have := hf 31; omega
  | 29, _ => by show pw f 32 0 / 65536 % 256 = f 29; rw [h0]; have := hf 24; have := hf 25; have := hf 26; have := hf 27; have := hf 28; have := hf 29; have := hf 30; have := hf 31; omega
  | 30, _ => by show pw f 32 0 / 256 % 256 = f 30; rw [h0]; have := hf 24; have := hf 25; have := hf 26; have := hf 27; have := hf 28; have := hf 29; have := hf 30; have := hf 31; omega
  | 31, _ => by show pw f 32 0 / 1 % 256 = f 31; rw [h0]; have := hf 24; have := hf 25; have := hf 26; have := hf 27; have := hf 28; have := hf 29; have := hf 30; have := hf 31; omega
  | k + 32, h => by omega

theorem pU_word (f : Nat → Nat) (i : Nat) {q : Nat} (hq : q < 4) : wordAt (pU f i) q = (pw f i q : Int) := by
  have : q = 0 ∨ q = 1 ∨ q = 2 ∨ q = 3 := by omega
  rcases this with rfl | rfl | rfl | rfl <;> rfl
theorem bytesU_fromU (s : ByteArray) (hs : s.size = 32) : bytesU (fromU s) = s := by
  refine bl_inj ?_
  show (fillL (byteAt (fromU s)) 32 32).toArray.toList = bl s
  rw [fillL_full, List.toList_toArray]
  refine List.ext_getElem (by rw [List.length_map, List.length_range, bl_length, hs]) (fun k h1 h2 => ?_)
  have hk : k < 32 := by simpa using h1
  obtain ⟨g0, g1, g2, g3⟩ := pw_full (byF s)
  have hb := pw_byte (byF s) (byF_lt s) g0 g1 g2 g3 k hk
  have e1 : ((pw (byF s) 32 ((31 - k) / 8) : Int) / 2 ^ (8 * ((31 - k) % 8)) % 256).toNat = byF s k := by
    have : (pw (byF s) 32 ((31 - k) / 8) : Int) / 2 ^ (8 * ((31 - k) % 8)) % 256 = ((pw (byF s) 32 ((31 - k) / 8) / 2 ^ (8 * ((31 - k) % 8)) % 256 : Nat) : Int) := by push_cast; rfl
    rw [this, hb]; rfl
  rw [List.getElem_map, List.getElem_range]
  unfold byteAt
  unfold fromU
  rw [pU_word _ _ (by omega), e1]
  unfold byF
  rw [UInt8.ofNat_toNat, List.getD_eq_getElem?_getD, List.getElem?_eq_getElem h2]
  rfl
theorem fromU_bytesU {a : U4} (ha : a.ok) : fromU (bytesU a) = a := bytesU_inj (fromU_ok _) ha (bytesU_fromU _ (bytesU_size a))

theorem last_one {α : Type} : ∀ (n : Nat) (l : List α) (d : α), l.length = n + 1 → l.drop n = [l.getD n d]
  | 0, [a], _, _ => rfl
  | n + 1, a :: l, d, h => by
    rw [List.drop_succ_cons, last_one n l d (by simpa using h)]
    rfl
theorem sealB_from {s : ByteArray} (hs : s.size = 65) (h : sigOk (sgFrom s) = true) : sealB (sgFrom s) = s := by
  unfold sealB
  rw [if_pos h]
  unfold sigBytes sgFrom
  simp only [bytesU_fromU _ (show (s.extract 0 32).size = 32 by rw [extract_size (by omega)]), bytesU_fromU _ (show (s.extract 32 64).size = 32 by rw [extract_size (by omega)])]
  refine bl_inj ?_
  rw [bl_app, bl_app, bl_extract, bl_extract]
  have hl : (bl s).length = 65 := by rw [bl_length, hs]
  have e1 : bl (⟨#[UInt8.ofNat ((((bl s).getD 64 0).toNat : Int)).toNat]⟩ : ByteArray) = (bl s).drop 64 := by
    rw [last_one 64 (bl s) 0 hl]
    show [UInt8.ofNat ((((bl s).getD 64 0).toNat : Int)).toNat] = _
    rw [Int.toNat_natCast, UInt8.ofNat_toNat]
  rw [e1, List.drop_zero]
  have e2 : ((bl s).take 64).drop 32 = ((bl s).drop 32).take 32 := by rw [List.drop_take]
  rw [e2, ← List.take_add, List.take_append_drop]
theorem sealB_ok {g : Sg} (h : sigOk g = true) : sealB g = bytesU g.1 ++ bytesU g.2.1 ++ ⟨#[UInt8.ofNat g.2.2.toNat]⟩ := by
  unfold sealB
  rw [if_pos h]
  rfl
theorem from_sealB {g : Sg} (ho : g.ok) (h : sigOk g = true) : sgFrom (sealB g) = g := by
  have hv := sigOk_v h
  obtain ⟨a, b, v⟩ := g
  have z1 : (bl (bytesU a)).length = 32 := by rw [bl_length, bytesU_size]
  have z2 : (bl (bytesU b)).length = 32 := by rw [bl_length, bytesU_size]
  have hb : bl (sealB (a, b, v)) = bl (bytesU a) ++ (bl (bytesU b) ++ [UInt8.ofNat v.toNat]) := by
    rw [sealB_ok h, bl_app, bl_app, List.append_assoc]
    rfl
  unfold sgFrom
  have e1 : (sealB (a, b, v)).extract 0 32 = bytesU a := bl_inj (by
    rw [bl_extract, hb, List.take_append_of_le_length (by omega), List.take_of_length_le (by omega), List.drop_zero])
  have e2 : (sealB (a, b, v)).extract 32 64 = bytesU b := bl_inj (by
    rw [bl_extract, hb, List.drop_take, List.drop_append_of_le_length (by omega), List.drop_of_length_le (by omega), List.nil_append, List.take_append_of_le_length (by omega), List.take_of_length_le (by omega)])
  have e3 : (bl (sealB (a, b, v))).getD 64 0 = UInt8.ofNat v.toNat := by
    rw [hb, List.getD_eq_getElem?_getD, List.getElem?_append_right (by omega), List.getElem?_append_right (by omega), z1, z2]
    rfl
  rw [e1, e2, e3, fromU_bytesU ho.1, fromU_bytesU ho.2]
  simp only at hv
  rcases hv with rfl | rfl <;> rfl
end Go.Proofs.Ytefmlbckbhlgdaa
namespace Go.Proofs.Ytefmlbckbhlgdaa
open Go.RowKit Go.Shelf
set_option maxRecDepth 100000
/-- What a header's bytes say, ahead of the look at them. -/
structure Raw where
  pa : ByteArray
  ht : Nat
  ro : ByteArray
  tx : ByteArray
  pr : ByteArray
  va : ByteArray
  vs : List ByteArray
  vo : ByteArray
  ad : Nat
  rd : Nat
  ss : List ByteArray
def rawF (x : Raw) : List Fd := [bF x.pa, nF x.ht, bF x.ro, bF x.tx, bF x.pr, bF x.va, lF (x.vs.map bF), bF x.vo, nF x.ad, nF x.rd, lF (x.ss.map bF)]
def Raw.ok (x : Raw) : Prop := (∀ s ∈ x.ss, s.size = 65) ∧ x.ht < 18446744073709551616 ∧ x.ad < 18446744073709551616 ∧ x.rd < 18446744073709551616 ∧ x.vs.length ≤ 40 ∧ x.ss.length ≤ 40

theorem itemK_b {f : Fd} {x : It} {c : UInt8} (hc : c ≠ 110 ∧ c ≠ 42 ∧ c ≠ 40) (h : itemK (.mk c []) f = some x) : ∃ s : ByteArray, f = bF s ∧ (c = 115 → s.size = 65) := by
  obtain ⟨⟨n, b⟩, l⟩ := f
  rw [itemK] at h
  rw [if_neg hc.1] at h
  have hb : bF (mkS b) = .mk (0, b) [] := by show Tr.mk (0, bl (mkS b)) [] = _; rw [bl_mk]
  by_cases h98 : c = 98
  · rw [if_pos h98] at h
    split at h
    · rename_i h1
      obtain ⟨rfl, rfl, _⟩ := h1
      exact ⟨mkS b, hb.symm, fun e => by rw [h98] at e; exact absurd e (by decide)⟩
    · cases h
  · rw [if_neg h98, if_neg hc.2.1, if_neg hc.2.2] at h
    split at h
    · rename_i h1
      obtain ⟨rfl, rfl, h2⟩ := h1
      refine ⟨mkS b, hb.symm, fun e => ?_⟩
      subst e
      rw [mk_size]
      have : sizeK 115 = 65 := by decide
      omega
    · cases h
theorem itemK_n {f : Fd} {x : It} (h : itemK (.mk 110 []) f = some x) : ∃ n : Nat, f = nF n := by
  obtain ⟨⟨n, b⟩, l⟩ := f
  rw [itemK, if_pos rfl] at h
  split at h
  · rename_i h1
    obtain ⟨rfl, rfl⟩ := h1
    exact ⟨n, rfl⟩
  · cases h
theorem mapM_bs {c : UInt8} (hc : c ≠ 110 ∧ c ≠ 42 ∧ c ≠ 40) : ∀ {l : List Fd} {xs : List It}, l.mapM (itemK (.mk c [])) = some xs → ∃ ss : List ByteArray, l = ss.map bF ∧ (c = 115 → ∀ s ∈ ss, s.size = 65)
  | [], _, _ => ⟨[], rfl, fun _ s h => by cases h⟩
  | f :: l, xs, h => by
    rw [List.mapM_cons] at h
    obtain ⟨y, h1, h2⟩ := Option.bind_eq_some_iff.1 h
    obtain ⟨ys, h3, _⟩ := Option.bind_eq_some_iff.1 h2
    obtain ⟨s, rfl, e1⟩ := itemK_b hc h1
    obtain ⟨ss, rfl, e2⟩ := mapM_bs hc h3
    refine ⟨s :: ss, rfl, fun e t ht => ?_⟩
    rcases List.mem_cons.1 ht with rfl | ht
    · exact e1 e
    · exact e2 e t ht
theorem itemK_l {f : Fd} {x : It} {c : UInt8} (hc : c ≠ 110 ∧ c ≠ 42 ∧ c ≠ 40) (h : itemK (.mk 42 [.mk c []]) f = some x) : ∃ ss : List ByteArray, f = lF (ss.map bF) ∧ ss.length ≤ 40 ∧ (c = 115 → ∀ s ∈ ss, s.size = 65) := by
  obtain ⟨⟨n, b⟩, l⟩ := f
  rw [itemK, if_neg (by decide), if_neg (by decide), if_pos rfl] at h
  split at h
  · rename_i h1
    obtain ⟨rfl, rfl, h2⟩ := h1
    obtain ⟨xs, h3, _⟩ := Option.map_eq_some_iff.1 h
    rw [starI] at h3
    obtain ⟨ss, rfl, e2⟩ := mapM_bs hc h3
    exact ⟨ss, rfl, by simpa using h2, e2⟩
  · cases h
theorem rowI_cons {k : Kd} {ks : List Kd} {l : List Fd} {xs : List It} (h : rowI (k :: ks) l = some xs) : ∃ f l' x xs', l = f :: l' ∧ itemK k f = some x ∧ rowI ks l' = some xs' := by
  cases l with
  | nil => rw [rowI] at h; cases h
  | cons f l =>
    rw [rowI] at h
    obtain ⟨x, h1, h2⟩ := Option.bind_eq_some_iff.1 h
    obtain ⟨xs', h3, _⟩ := Option.map_eq_some_iff.1 h2
    exact ⟨f, l, x, xs', rfl, h1, h3⟩
theorem rowI_nil {l : List Fd} {xs : List It} (h : rowI [] l = some xs) : l = [] := by
  cases l with
  | nil => rfl
  | cons f l => rw [rowI] at h; cases h

theorem raw_of {s : List UInt8} {l : List Fd} (h : readF hform s = (l, 0)) : ∃ x : Raw, l = rawF x ∧ x.ok := by
  have hf := read_ok h
  have hw := written_read h
  unfold writeF at hw
  rw [hkinds_ok] at hw
  simp only at hw
  split at hw
  · cases hx : itemsT (.mk 40 hkinds) l with
    | none => rw [hx] at hw; cases hw
    | some y =>
      rw [itemsT, if_neg (by decide)] at hx
      obtain ⟨xs, h1, _⟩ := Option.map_eq_some_iff.1 hx
      unfold hkinds at h1
      obtain ⟨f0, l, x0, xs, rfl, k0, h1⟩ := rowI_cons h1
      obtain ⟨f1, l, x1, xs, rfl, k1, h1⟩ := rowI_cons h1
      obtain ⟨f2, l, x2, xs, rfl, k2, h1⟩ := rowI_cons h1
      obtain ⟨f3, l, x3, xs, rfl, k3, h1⟩ := rowI_cons h1
      obtain ⟨f4, l, x4, xs, rfl, k4, h1⟩ := rowI_cons h1
      obtain ⟨f5, l, x5, xs, rfl, k5, h1⟩ := rowI_cons h1
      obtain ⟨f6, l, x6, xs, rfl, k6, h1⟩ := rowI_cons h1
      obtain ⟨f7, l, x7, xs, rfl, k7, h1⟩ := rowI_cons h1
      obtain ⟨f8, l, x8, xs, rfl, k8, h1⟩ := rowI_cons h1
      obtain ⟨f9, l, x9, xs, rfl, k9, h1⟩ := rowI_cons h1
      obtain ⟨f10, l, x10, xs, rfl, k10, h1⟩ := rowI_cons h1
      obtain rfl := rowI_nil h1
      obtain ⟨pa, rfl, _⟩ := itemK_b (by decide) k0
      obtain ⟨ht, rfl⟩ := itemK_n k1
      obtain ⟨ro, rfl, _⟩ := itemK_b (by decide) k2
      obtain ⟨tx, rfl, _⟩ := itemK_b (by decide) k3
      obtain ⟨pr, rfl, _⟩ := itemK_b (by decide) k4
      obtain ⟨va, rfl, _⟩ := itemK_b (by decide) k5
      obtain ⟨vs, rfl, v40, _⟩ := itemK_l (by decide) k6
      obtain ⟨vo, rfl, _⟩ := itemK_b (by decide) k7
      obtain ⟨ad, rfl⟩ := itemK_n k8
      obtain ⟨rd, rfl⟩ := itemK_n k9
      obtain ⟨ss, rfl, s40, hss⟩ := itemK_l (by decide) k10
      have o1 := fsOk_mem hf (nF ht) (by simp)
      have o8 := fsOk_mem hf (nF ad) (by simp)
      have o9 := fsOk_mem hf (nF rd) (by simp)
      exact ⟨⟨pa, ht, ro, tx, pr, va, vs, vo, ad, rd, ss⟩, rfl, hss rfl, o1.1, o8.1, o9.1, v40, s40⟩
  · cases hw

def fdAt (l : List Fd) (i : Nat) : Fd := l.getD i (.mk (0, []) [])
def fdB (f : Fd) : ByteArray := mkS f.val.2
def rawL (l : List Fd) : Raw := ⟨fdB (fdAt l 0), (fdAt l 1).val.1, fdB (fdAt l 2), fdB (fdAt l 3), fdB (fdAt l 4), fdB (fdAt l 5), (fdAt l 6).kids.map fdB, fdB (fdAt l 7), (fdAt l 8).val.1, (fdAt l 9).val.1, (fdAt l 10).kids.map fdB⟩
theorem fdB_bF (s : ByteArray) : fdB (bF s) = s := mkS_bl s
theorem map_fdB (l : List ByteArray) : (l.map bF).map fdB = l := by
  rw [List.map_map]
  conv => rhs; rw [← List.map_id l]
  exact List.map_congr_left (fun s _ => fdB_bF s)
theorem rawL_rawF (x : Raw) : rawL (rawF x) = x := by
  obtain ⟨pa, ht, ro, tx, pr, va, vs, vo, ad, rd, ss⟩ := x
  have e : rawL (rawF ⟨pa, ht, ro, tx, pr, va, vs, vo, ad, rd, ss⟩) = ⟨fdB (bF pa), ht, fdB (bF ro), fdB (bF tx), fdB (bF pr), fdB (bF va), (vs.map bF).map fdB, fdB (bF vo), ad, rd, (ss.map bF).map fdB⟩ := rfl
  rw [e]
  simp only [fdB_bF, map_fdB]

def toH (x : Raw) : Hd := ⟨x.pa, x.ht, x.ro, x.tx, x.pr, x.va, x.vs, x.vo, decide (x.ad = 1), x.rd, x.ss.map sgFrom⟩
def zHd : Hd := ⟨⟨#[]⟩, 0, ⟨#[]⟩, ⟨#[]⟩, ⟨#[]⟩, ⟨#[]⟩, [], ⟨#[]⟩, false, 0, []⟩
noncomputable def seenH (x : Raw) : Hd × Int := if x.ad ≤ 1 ∧ hdL (toH x) = true then (toH x, 0) else (zHd, 4)
/-- What header.Read answers. -/
noncomputable def readH (s : List UInt8) : Hd × Int := if (readF hform s).2 = 0 then seenH (rawL (readF hform s).1) else (zHd, 4)

theorem hdF_raw (h : Hd) : hdF h = rawF ⟨h.pa, h.ht.toNat, h.ro, h.tx, h.pr, h.va, h.val, h.vo, if h.ad = true then 1 else 0, h.rd.toNat, h.se.map sealB⟩ := rfl
theorem readH_rec {h : Hd} (hk : HdOk h) (hn : HdNum h) (ho : ∀ s ∈ h.se, s.ok) : readH (recL h).1 = (h, 0) := by
  have hr := (rec_ok hk hn).1
  have hw : writeF hform (hdF h) = ((recL h).1, 0) := by
    show recL h = _
    rw [hr]
  have hrd := read_written hw (hdF_ok hn)
  unfold readH
  rw [hrd]
  rw [if_pos rfl, hdF_raw, rawL_rawF]
  have ht : toH ⟨h.pa, h.ht.toNat, h.ro, h.tx, h.pr, h.va, h.val, h.vo, if h.ad = true then 1 else 0, h.rd.toNat, h.se.map sealB⟩ = h := by
    obtain ⟨⟨n1, n2⟩, n3, n4⟩ := hn
    have hse : (h.se.map sealB).map sgFrom = h.se := by
      rw [List.map_map]
      conv => rhs; rw [← List.map_id h.se]
      exact List.map_congr_left (fun s hs => from_sealB (ho s hs) (hk.2.2.2.2.2.2.2.2 s hs))
    obtain ⟨pa, ht, ro, tx, pr, va, val, vo, ad, rd, se⟩ := h
    simp only at n1 n3 hse
    unfold toH
    simp only [hse]
    have e1 : ((ht.toNat : Nat) : Int) = ht := Int.toNat_of_nonneg n1
    have e2 : ((rd.toNat : Nat) : Int) = rd := Int.toNat_of_nonneg n3
    rw [e1, e2]
    cases ad <;> rfl
  unfold seenH
  rw [ht, hdL_true hk, if_pos ⟨by show (if h.ad = true then 1 else 0) ≤ 1; split <;> omega, rfl⟩]
theorem hdOk_of {h : Hd} (e : hdL h = true) : HdOk h := by
  by_cases hh : HdOk h
  · exact hh
  · rw [hdL_false hh] at e; cases e
theorem ad_back {ad : Nat} (h : ad ≤ 1) : (if decide (ad = 1) = true then 1 else 0) = ad := by
  match ad, h with
  | 0, _ => rfl
  | 1, _ => rfl
  | n + 2, h => omega
theorem hdF_toH {x : Raw} (h1 : x.ad ≤ 1) (hse : (x.ss.map sgFrom).map sealB = x.ss) : hdF (toH x) = rawF x := by
  have e : hdF (toH x) = [bF x.pa, nF ((x.ht : Nat) : Int).toNat, bF x.ro, bF x.tx, bF x.pr, bF x.va, lF (x.vs.map bF), bF x.vo, nF (if decide (x.ad = 1) = true then 1 else 0), nF ((x.rd : Nat) : Int).toNat, lF (((x.ss.map sgFrom).map sealB).map bF)] := rfl
  rw [e, hse, Int.toNat_natCast, Int.toNat_natCast, ad_back h1]
  rfl
theorem readH_ok {s : List UInt8} (h : (readH s).2 = 0) : HdOk (readH s).1 ∧ HdNum (readH s).1 ∧ (∀ g ∈ (readH s).1.se, g.ok) ∧ recL (readH s).1 = (s, 0) := by
  unfold readH at h
  split at h
  · rename_i e
    have hr : readF hform s = ((readF hform s).1, 0) := by rw [← e]
    obtain ⟨x, hx, ⟨o1, o2, o3, o4, -, -⟩⟩ := raw_of hr
    have e1 : readH s = seenH x := by
      unfold readH
      rw [if_pos e, hx, rawL_rawF]
    rw [hx, rawL_rawF] at h
    rw [e1]
    have hw := written_read hr
    rw [hx] at hw
    unfold seenH at *
    split at h
    · rename_i hc
      rw [if_pos hc]
      have hk := hdOk_of hc.2
      have hs := hk.2.2.2.2.2.2.2.2
      refine ⟨hk, ⟨⟨Int.natCast_nonneg _, by show (x.ht : Int) < _; omega⟩, ⟨Int.natCast_nonneg _, by show (x.rd : Int) < _; omega⟩⟩, fun g hg => ?_, ?_⟩
      · obtain ⟨t, _, rfl⟩ := List.mem_map.1 hg
        exact sgFrom_ok t
      · show writeF hform (hdF (toH x)) = (s, 0)
        have hse : (x.ss.map sgFrom).map sealB = x.ss := by
          rw [List.map_map]
          conv => rhs; rw [← List.map_id x.ss]
          refine List.map_congr_left (fun t ht => ?_)
          have hm : sgFrom t ∈ x.ss.map sgFrom := List.mem_map.2 ⟨t, ht, rfl⟩
          have hg : sigOk (sgFrom t) = true := hs (sgFrom t) hm
          have hq := sealB_from (o1 t ht) hg
          rw [Function.comp_apply, hq, id]
        rw [hdF_toH hc.1 hse]
        exact hw
    · cases h
  · cases h
end Go.Proofs.Ytefmlbckbhlgdaa

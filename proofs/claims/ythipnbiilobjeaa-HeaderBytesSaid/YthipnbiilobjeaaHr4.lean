/- Header: the record of a header, walked. -/
import Derived.Test.YthipnbiilobjeaaHr3
namespace Go.Proofs.Ythipnbiilobjeaa
open Go.RowKit Go.Shelf
set_option maxRecDepth 100000

set_option maxHeartbeats 2000000 in
theorem record_any (h : Hd) (sv gv : Value) (w : World) (hh : HdAt w h sv gv) (hn : HdNum h) (hl : h.val.length ≤ 1000) (hl2 : h.se.length ≤ 1000) : Calls Try.prog 45 #[hdV h sv gv] w fun e w' => e = .returned (.tuple #[.string (mkS (recL h).1), .int .i64 (recL h).2]) ∧ Below w.heap.size w w' := by
  obtain ⟨hS, hG, hok⟩ := hh
  have HS := Lib.hid hS
  have HG := Lib.hid hG
  have HOK := Lib.hid hok
  obtain ⟨pS, cS, rfl, s1, s2⟩ := RowE.shape encS hS
  obtain ⟨pG, cG, rfl, s3, s4⟩ := RowE.shape encG hG
  have KW : Hid (∀ W v, RowT encFd (fun _ => True) W v (hdF h) → Calls Try.prog 12 #[.string ⟨#[104, 110, 104, 104, 97, 98, 42, 97, 98, 110, 110, 42, 115]⟩, v] W fun e w' => e = .returned (.tuple #[.string (mkS (recL h).1), .int .i64 (recL h).2]) ∧ Below W.heap.size W w') := Lib.hid (fun W v hr => fwrite_any ⟨#[104, 110, 104, 104, 97, 98, 42, 97, 98, 110, 110, 42, 115]⟩ v (hdF h) W (by show (13 : Nat) ≤ 1000; omega) (hdF_ok hn) hr)
  have HF : Hid (hdF h = [bF h.pa, nF h.ht.toNat, bF h.ro, bF h.tx, bF h.pr, bF h.va, lF (h.val.map bF), bF h.vo, nF (if h.ad = true then 1 else 0), nF h.rd.toNat, lF ((h.se.map sealB).map bF)]) := Lib.hid rfl
  generalize recL h = r at *
  generalize hdF h = F at *
  clear hS hG hok
  obtain ⟨pa, ht, ro, tx, pr, va, val, vo, ad, rd, se⟩ := h
  obtain ⟨⟨n1, n2⟩, n3, n4⟩ := hn
  simp only at n1 n2 n3 n4 s1 s3 hl hl2 HS HG HOK HF
  obtain ⟨htn, rfl⟩ : ∃ n : Nat, ht = n := ⟨ht.toNat, by omega⟩
  obtain ⟨rdn, rfl⟩ : ∃ n : Nat, rd = n := ⟨rd.toNat, by omega⟩
  obtain ⟨an, rfl⟩ : ∃ n : Nat, ad = decide (n = 1) := ⟨if ad = true then 1 else 0, by cases ad <;> rfl⟩
  obtain ⟨av, hav⟩ : ∃ n : Nat, n = (if decide (an = 1) = true then 1 else 0) := ⟨_, rfl⟩
  simp only [Int.toNat_natCast, ← hav] at HF
  have HAV := Lib.hid hav
  clear hav
  unfold maxLen at s2 s4
  have R0 := Lib.hid ((RowAt.new w #[.string pa, .int .u64 (htn : Int), .string ro, .string tx, .string pr, .string va, .slice pS val.length cS, .string vo, .bool (decide (an = 1)), .int .u64 (rdn : Int), .slice pG se.length cG] 36).alloc (.cells #[.slice none 0 0] 113))
  have R1 := Lib.hid (RowAt.new' (w.alloc (.cells #[.string pa, .int .u64 (htn : Int), .string ro, .string tx, .string pr, .string va, .slice pS val.length cS, .string vo, .bool (decide (an = 1)), .int .u64 (rdn : Int), .slice pG se.length cG] 36)) #[.slice none 0 0] 113 (k := w.heap.size + 1) (by simp))
  have HB0 := Lib.hid (bel2 w (.cells #[.string pa, .int .u64 (htn : Int), .string ro, .string tx, .string pr, .string va, .slice pS val.length cS, .string vo, .bool (decide (an = 1)), .int .u64 (rdn : Int), .slice pG se.length cG] 36) (.cells #[.slice none 0 0] 113))
  clear n1 n2 n3 n4
  go_enter Try.func45, Try.ntmps45
  go_upto_region 4 with (fail)
  generalize (w.alloc (.cells #[.string pa, .int .u64 (htn : Int), .string ro, .string tx, .string pr, .string va, .slice pS val.length cS, .string vo, .bool (decide (an = 1)), .int .u64 (rdn : Int), .slice pG se.length cG] 36)).alloc (.cells #[.slice none 0 0] 113) = W at *
  obtain ⟨x0, x1, x2, x3, x4, x5, x6, x7, x8, x9, x10⟩ := R0.out.c11
  go_upto_if 20 with (fail)
  go_cut [7] (fun t wr => t = .int .u64 (av : Int) ∧ W = wr)
  case first =>
    by_cases h1 : an = 1
    · have H1 := Lib.hid (show av = 1 by rw [HAV.out]; simp [h1])
      subst h1
      go_wp2
      go_meet
      case rel => exact ⟨by rw [H1.out]; rfl, rfl⟩
    · have H1 := Lib.hid (show av = 0 by rw [HAV.out]; simp [h1])
      go_wp2
      go_meet
      case rel => exact ⟨by rw [H1.out]; rfl, rfl⟩
  case rest =>
  obtain ⟨rfl, rfl⟩ := hcut
  go_upto_region 8 with (fail)
  clear x0 x1 x2 x3 x4 x5 x6 x7 x8 x9 x10
  have O0 : Hid (OwnE encS 9 W W.heap.size (.slice none 0 0) []) := Lib.hid (OwnE.nil encS _ _ _)
  have HWS : Hid (w.heap.size + 2 ≤ W.heap.size) := Lib.hid R1.out.lt
  go_loopw [8, 24] (fun s8 s24 wr => ∃ (i : Nat) (p : Option Addr) (c : Nat) (ss : List ByteArray), i ≤ se.length ∧ s24 = .int .i64 i ∧ s8 = .slice p i c ∧ Hid (ss = (se.take i).map sealB) ∧ Hid (OwnE encS 9 wr W.heap.size (.slice p i c) ss) ∧ Hid (Below W.heap.size W wr)) (fun _ s _ => se.length - (intOf s).toNat)
  case atStart => exact ⟨0, none, 0, [], Nat.zero_le _, rfl, rfl, Lib.hid (by simp), O0, Lib.hid (Below.refl _ _)⟩
  case round =>
    obtain ⟨i, p, c, ss, hi, rfl, rfl, hss, ho, hb⟩ := hrel
    clear O0
    have HSS := Lib.hid hss.out
    clear hss
    have O := Lib.hid ho.out
    have HB := Lib.hid hb.out
    clear ho hb
    have HTL : Hid (ss.length = i) := Lib.hid (by rw [HSS.out]; simp; omega)
    by_cases hlt : i < se.length
    · obtain ⟨s, hs⟩ : ∃ s, se[i]? = some s := ⟨_, List.getElem?_eq_getElem hlt⟩
      obtain ⟨a, rfl, hc⟩ := (RowE.below encG HG.out (HB0.out.trans (HB.out.mono HB0.out.size)) (Nat.le_refl _)).atG i s hs
      have hsk := HOK.out s (List.mem_of_getElem? hs)
      have HTK : Hid (ss ++ [sealB s] = (se.take (i + 1)).map sealB) := Lib.hid (by rw [List.take_add_one, hs, HSS.out]; simp)
      have KS := sealB_any s hsk
      generalize hsb : sealB s = sb at *
      generalize hbd : (if sigOk s = true then (0 : Int) else 1) = bad at *
      replace KS := Lib.hid KS
      clear hs hsk hsb hbd
      obtain ⟨⟨r0, r1, r2, r3⟩, ⟨s0, s1', s2', s3'⟩, v⟩ := s
      have c0 := hc 0 _ rfl
      have c1 := hc 1 _ rfl
      have c2 := hc 2 _ rfl
      have c3 := hc 3 _ rfl
      have c4 := hc 4 _ rfl
      have c5 := hc 5 _ rfl
      have c6 := hc 6 _ rfl
      have c7 := hc 7 _ rfl
      have c8 := hc 8 _ rfl
      clear hc
      replace c0 : wr.cell? (a.add (i * 9)) = _ := c0
      replace c1 : wr.cell? ⟨(a.add (i * 9)).block, (a.add (i * 9)).off + 1, none⟩ = _ := c1
      replace c2 : wr.cell? ⟨(a.add (i * 9)).block, (a.add (i * 9)).off + 2, none⟩ = _ := c2
      replace c3 : wr.cell? ⟨(a.add (i * 9)).block, (a.add (i * 9)).off + 3, none⟩ = _ := c3
      replace c4 : wr.cell? ⟨(a.add (i * 9)).block, (a.add (i * 9)).off + 4, none⟩ = _ := c4
      replace c5 : wr.cell? ⟨(a.add (i * 9)).block, (a.add (i * 9)).off + 5, none⟩ = _ := c5
      replace c6 : wr.cell? ⟨(a.add (i * 9)).block, (a.add (i * 9)).off + 6, none⟩ = _ := c6
      replace c7 : wr.cell? ⟨(a.add (i * 9)).block, (a.add (i * 9)).off + 7, none⟩ = _ := c7
      replace c8 : wr.cell? ⟨(a.add (i * 9)).block, (a.add (i * 9)).off + 8, none⟩ = _ := c8
      try simp only at c0 c1 c2 c3 c4 c5 c6 c7 c8
      have O2 := Lib.hid (OwnE.below encS O.out (bel1 wr (.cells (sgc ((r0, r1, r2, r3), (s0, s1', s2', s3'), v)) 80)) (Nat.le_refl _))
      have HB2 := Lib.hid (HB.out.alloc HB.out.size (.cells (sgc ((r0, r1, r2, r3), (s0, s1', s2', s3'), v)) 80))
      clear O HB
      go_upto_region 11 with (go_at_call 49; refine (KS.out _).mono ?_; rintro e w3 ⟨rfl, hb⟩; have HB3 := Lib.hid (HB2.out.trans (hb.mono HB2.out.size)); have O3 := Lib.hid (OwnE.below encS O2.out hb (Nat.le_refl _)); clear hb c0 c1 c2 c3 c4 c5 c6 c7 c8)
      have O4 := Lib.hid (OwnE.below encS O3.out (bel1 w3 (.cells #[.string sb] 9)) (Nat.le_refl _))
      have R4 := Lib.hid (RowAt.new w3 #[.string sb] 9)
      have HB4 := Lib.hid (HB3.out.alloc HB3.out.size (.cells #[.string sb] 9))
      have HL4 := Lib.hid (RowE.lit encS R4.out sb rfl)
      have HSZ : Hid (W.heap.size ≤ (w3.alloc (.cells #[.string sb] 9)).heap.size) := Lib.hid HB4.out.size
      clear O2 O3 HB2 HB3
      go_upto_region 12 with (at_builtin; refine wpList_append_rowE encS Try.underlying33 info_str rfl rfl _ _ rfl W.heap.size _ ss rfl O4.out _ [sb] rfl HL4.out (by unfold maxLen; rw [HTL.out]; simp; omega) (by rw [HTL.out]; simp; omega) HSZ.out ?_)
      intro v' w' ho hbb hz _
      obtain ⟨p', c', e, _, _⟩ := RowE.shape encS (OwnE.row encS ho)
      rw [List.length_append, HTL.out, List.length_singleton] at e
      subst e
      have O5 := Lib.hid ho
      have HB5 := Lib.hid (show Below W.heap.size W w' from hbb _ HB4.out)
      clear ho hbb hz O4 HB4 HL4 R4 HSS HTL
      generalize ss ++ [sb] = ss2 at *
      go_wp2
      exact ⟨⟨i + 1, p', c', ss2, by omega, by simp, rfl, HTK, O5, HB5⟩, by simp [intOf]; omega⟩
    · obtain rfl : i = se.length := by omega
      have hss := HSS.out
      rw [List.take_length] at hss
      have HS5 := Lib.hid hss
      have HSR := Lib.hid (OwnE.row encS O.out)
      have R0' := Lib.hid (R0.out.belowS HB.out)
      have R1' := Lib.hid (R1.out.belowS HB.out)
      have HV := Lib.hid (RowE.below encS HS.out (HB0.out.trans (HB.out.mono HB0.out.size)) (Nat.le_refl _))
      have HB5 := Lib.hid (HB0.out.trans (HB.out.mono HB0.out.size))
      have hlen : ss.length ≤ 1000 := by have := HTL.out; omega
      clear R0 R1 O HB hss HSS HTL HWS
      have R0 := R0'
      have R1 := R1'
      clear R0' R1'
      generalize wr = W5 at *
      have HVS : Hid (∀ W' v ts, WrAt W5 (w.heap.size + 1) W' v ts → RowE encS W' (.slice pS val.length cS) val) := Lib.hid (fun W' v ts hw => WrAt.rowE hw HV.out R1.out (fun x c hc => encS_ne x none 0 0 c hc))
      have HSS : Hid (∀ W' v ts, WrAt W5 (w.heap.size + 1) W' v ts → RowE encS W' (.slice p se.length c) ss) := Lib.hid (fun W' v ts hw => WrAt.rowE hw HSR.out R1.out (fun x c hc => encS_ne x none 0 0 c hc))
      have HW := Lib.hid (WrAt.start R1.out)
      obtain ⟨x0, x1, x2, x3, x4, x5, x6, x7, x8, x9, x10⟩ := R0.out.c11
      go_upto_region 23 with (first
        | (go_at_call 80; refine (text_any W5 _ _ _ _ _ HW.out (by simp)).mono ?_; rintro e wN ⟨rfl, vN, hw⟩; have HW := Lib.hid hw; clear hw x0 x1 x2 x3 x4 x5 x6 x7 x8 x9 x10; obtain ⟨x0, x1, x2, x3, x4, x5, x6, x7, x8, x9, x10⟩ := (HW.out.other R0.out (by omega)).c11)
        | (go_at_call 81; refine (number_anyW W5 _ _ _ _ _ HW.out (by simp)).mono ?_; rintro e wN ⟨rfl, vN, hw⟩; have HW := Lib.hid hw; clear hw x0 x1 x2 x3 x4 x5 x6 x7 x8 x9 x10; obtain ⟨x0, x1, x2, x3, x4, x5, x6, x7, x8, x9, x10⟩ := (HW.out.other R0.out (by omega)).c11)
        | (go_at_call 82; refine (list_any W5 _ _ _ _ _ val HW.out (by simp) (HVS.out _ _ _ HW.out) hl).mono ?_; rintro e wN ⟨rfl, vN, hw⟩; have HW := Lib.hid hw; clear hw x0 x1 x2 x3 x4 x5 x6 x7 x8 x9 x10; obtain ⟨x0, x1, x2, x3, x4, x5, x6, x7, x8, x9, x10⟩ := (HW.out.other R0.out (by omega)).c11))
      go_upto_region 24 with (first
        | (go_at_call 82; refine (list_any W5 _ _ _ _ _ ss HW.out (by simp) (HSS.out _ _ _ HW.out) hlen).mono ?_; rintro e wN ⟨rfl, vN, hw⟩; have HW := Lib.hid hw; clear hw x0 x1 x2 x3 x4 x5 x6 x7 x8 x9 x10; obtain ⟨x0, x1, x2, x3, x4, x5, x6, x7, x8, x9, x10⟩ := (HW.out.other R0.out (by omega)).c11))
      have hrow : RowT encFd (fun _ => True) wN vN F := by
        have := (HW.out.2.1.row (fun b hb => hb)).weaken (A' := fun _ => True) (fun _ _ => trivial)
        rw [HF.out, ← HS5.out]
        exact this
      have HRW := Lib.hid hrow
      have HLO := Lib.hid (HW.out.low HB5.out (Nat.le_succ _))
      obtain ⟨T, hrw⟩ := HW.out.row
      obtain ⟨a0, af0⟩ := hrw.c1
      have HLE := Lib.hid (Nat.le_trans HB5.out.size HW.out.lt.2)
      clear hrow hrw HW x0 x1 x2 x3 x4 x5 x6 x7 x8 x9 x10
      go_wp2_with (first
        | (go_at_call 12; refine (KW.out _ _ HRW.out).mono ?_; rintro e w9 ⟨rfl, hb⟩; have HB9 := Lib.hid (HLO.out.trans (hb.mono HLE.out)); clear hb))
      go_ret2
      exact ⟨rfl, HB9.out⟩
end Go.Proofs.Ythipnbiilobjeaa

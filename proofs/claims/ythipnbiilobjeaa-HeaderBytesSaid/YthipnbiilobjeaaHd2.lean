/- May a header be? -/
import Derived.Test.YthipnbiilobjeaaHd1
import Derived.Deep.DeepCutAuto
namespace Go.Proofs.Ythipnbiilobjeaa
open Go.RowKit Go.Shelf

set_option maxRecDepth 100000 in
set_option maxHeartbeats 4000000 in
theorem hRight_any (h : Hd) (sv gv : Value) (w : World) (hh : HdAt w h sv gv) (hl : h.val.length ≤ 1000000) : Calls Try.prog 23 #[hdV h sv gv] w fun e w' => e = .returned (.bool (hdL h)) ∧ Below w.heap.size w w' := by
  obtain ⟨hS, hG, hok⟩ := hh
  have KA := fun W hW => addrs_any sv h.val W hW hl
  have HS := Lib.hid hS
  have HG := Lib.hid hG
  have HOK := Lib.hid hok
  obtain ⟨pS, cS, rfl, s1, s2⟩ := RowE.shape encS hS
  obtain ⟨pG, cG, rfl, s3, s4⟩ := RowE.shape encG hG
  clear hS hG hok
  have hyes : HdOk h → hdL h = true := hdL_true
  have hno : ¬ HdOk h → hdL h = false := hdL_false
  have hdef : HdOk h ↔ (h.pa.size = 32 ∧ h.ro.size = 32 ∧ h.tx.size = 32 ∧ h.pr.size = 20 ∧ h.va.size ≤ 8 ∧ SetOk h.val ∧ h.se.length ≤ 16 ∧ (h.vo.size = 20 ∨ (h.vo = ⟨#[]⟩ ∧ h.ad = false)) ∧ ∀ s ∈ h.se, sigOk s = true) := Iff.rfl
  generalize hdL h = R at *
  generalize HdOk h = Ok at *
  obtain ⟨pa, ht, ro, tx, pr, va, val, vo, ad, rd, se⟩ := h
  simp only at hdef s1 s3 hl HS HG KA HOK
  unfold maxLen at s2 s4
  have R1 := Lib.hid ((RowAt.new w (hdc ⟨pa, ht, ro, tx, pr, va, val, vo, ad, rd, se⟩ (.slice pS val.length cS) (.slice pG se.length cG)) 36).alloc (.cells #[.string pa, .string ro, .string tx] 9))
  have R2 := Lib.hid (RowAt.new' (w.alloc (.cells (hdc ⟨pa, ht, ro, tx, pr, va, val, vo, ad, rd, se⟩ (.slice pS val.length cS) (.slice pG se.length cG)) 36)) #[.string pa, .string ro, .string tx] 9 (k := w.heap.size + 1) (by simp))
  have HB := Lib.hid (belowA2 w (.cells (hdc ⟨pa, ht, ro, tx, pr, va, val, vo, ad, rd, se⟩ (.slice pS val.length cS) (.slice pG se.length cG)) 36) (.cells #[.string pa, .string ro, .string tx] 9))
  have HY := Lib.hid hyes
  have HN := Lib.hid hno
  have HD := Lib.hid hdef
  clear hyes hno hdef
  go_enter Try.func23, Try.ntmps23
  go_upto_region 2 with (fail)
  generalize (w.alloc (.cells (hdc ⟨pa, ht, ro, tx, pr, va, val, vo, ad, rd, se⟩ (.slice pS val.length cS) (.slice pG se.length cG)) 36)).alloc (.cells #[.string pa, .string ro, .string tx] 9) = W at *
  obtain ⟨x0, x1, x2, x3, x4, x5, x6, x7, x8, x9, x10⟩ := R1.out.c11
  obtain ⟨y0, y1, y2, yf0, yf1, yf2⟩ := R2.out.c3
  simp only at x0 x1 x2 x3 x4 x5 x6 x7 x8 x9 x10
  go_loop [17] (fun c => ∃ k : Nat, k ≤ 3 ∧ c = .int .i64 k ∧ Hid ((1 ≤ k → pa.size = 32) ∧ (2 ≤ k → ro.size = 32) ∧ (3 ≤ k → tx.size = 32))) (fun c => 3 - (intOf c).toNat)
  case atStart => exact ⟨0, by omega, rfl, Lib.hid ⟨by omega, by omega, by omega⟩⟩
  case round =>
    obtain ⟨k, hk, rfl, hto⟩ := hrel
    have hk4 : k = 0 ∨ k = 1 ∨ k = 2 ∨ k = 3 := by omega
    rcases hk4 with rfl | rfl | rfl | rfl
    · by_cases e : pa.size = 32
      · have q : ((pa.size : Int) != 32) = false := by simp [e]
        have hn := Lib.hid (show (1 ≤ 1 → pa.size = 32) ∧ (2 ≤ 1 → ro.size = 32) ∧ (3 ≤ 1 → tx.size = 32) from ⟨fun _ => e, by omega, by omega⟩)
        clear e
        go_wp2_with fail
        exact ⟨⟨1, by omega, by simp, hn⟩, by simp [intOf]⟩
      · have hr := HN.out (fun h => e (HD.out.1 h).1)
        have q : ((pa.size : Int) != 32) = true := by simp; omega
        clear e
        go_wp2_with fail
        go_ret
        exact ⟨by first | rfl | (rw [hr]; rfl), HB.out⟩
    · by_cases e : ro.size = 32
      · have q : ((ro.size : Int) != 32) = false := by simp [e]
        have hn := Lib.hid (show (1 ≤ 2 → pa.size = 32) ∧ (2 ≤ 2 → ro.size = 32) ∧ (3 ≤ 2 → tx.size = 32) from ⟨fun _ => hto.out.1 (by omega), fun _ => e, by omega⟩)
        clear e
        go_wp2_with fail
        exact ⟨⟨2, by omega, by simp, hn⟩, by simp [intOf]⟩
      · have hr := HN.out (fun h => e (HD.out.1 h).2.1)
        have q : ((ro.size : Int) != 32) = true := by simp; omega
        clear e
        go_wp2_with fail
        go_ret
        exact ⟨by first | rfl | (rw [hr]; rfl), HB.out⟩
    · by_cases e : tx.size = 32
      · have q : ((tx.size : Int) != 32) = false := by simp [e]
        have hn := Lib.hid (show (1 ≤ 3 → pa.size = 32) ∧ (2 ≤ 3 → ro.size = 32) ∧ (3 ≤ 3 → tx.size = 32) from ⟨fun _ => hto.out.1 (by omega), fun _ => hto.out.2.1 (by omega), fun _ => e⟩)
        clear e
        go_wp2_with fail
        exact ⟨⟨3, by omega, by simp, hn⟩, by simp [intOf]⟩
      · have hr := HN.out (fun h => e (HD.out.1 h).2.2.1)
        have q : ((tx.size : Int) != 32) = true := by simp; omega
        clear e
        go_wp2_with fail
        go_ret
        exact ⟨by first | rfl | (rw [hr]; rfl), HB.out⟩
    · have z1 := hto.out.1 (by omega)
      have z2 := hto.out.2.1 (by omega)
      have z3 := hto.out.2.2 (by omega)
      have HD2 := Lib.hid (show Ok ↔ (pr.size = 20 ∧ va.size ≤ 8 ∧ SetOk val ∧ se.length ≤ 16 ∧ (vo.size = 20 ∨ (vo = ⟨#[]⟩ ∧ ad = false)) ∧ ∀ s ∈ se, sigOk s = true) from ⟨fun h => (HD.out.1 h).2.2.2, fun h => HD.out.2 ⟨z1, z2, z3, h⟩⟩)
      have KA2 := KA W (RowE.below encS HS.out HB.out (Nat.le_refl _))
      clear z1 z2 z3 HD hto y0 y1 y2 yf0 yf1 yf2 R2 KA
      by_cases c1 : pr.size = 20
      · have q1 : ((pr.size : Int) != 20) = false := by simp [c1]
        by_cases c2 : va.size ≤ 8
        · have q2 : ¬ (va.size : Int) > 8 := by omega
          by_cases c3 : SetOk val
          · rw [setL_true c3] at KA2
            have KA2 := Lib.hid KA2
            by_cases c4 : se.length ≤ 16
            · have q4 : ¬ (se.length : Int) > 16 := by omega
              have HD3 := Lib.hid (show Ok ↔ ((vo.size = 20 ∨ (vo = ⟨#[]⟩ ∧ ad = false)) ∧ ∀ s ∈ se, sigOk s = true) from ⟨fun h => (HD2.out.1 h).2.2.2.2, fun h => HD2.out.2 ⟨c1, c2, c3, c4, h⟩⟩)
              clear c1 c2 c3 c4 HD2
              go_upto_region 9 with (go_at_call 48; refine KA2.out.mono ?_; rintro e w1 ⟨rfl, rfl⟩)
              have hvo : (vo.size = 20 ∨ (vo = ⟨#[]⟩ ∧ ad = false)) ∨ (¬ vo.size = 20 ∧ ¬ vo = ⟨#[]⟩) ∨ (vo = ⟨#[]⟩ ∧ ad = true) := by
                by_cases e1 : vo.size = 20
                · exact .inl (.inl e1)
                · by_cases e2 : vo = ⟨#[]⟩
                  · cases ad
                    · exact .inl (.inr ⟨e2, rfl⟩)
                    · exact .inr (.inr ⟨e2, rfl⟩)
                  · exact .inr (.inl ⟨e1, e2⟩)
              rcases hvo with hvo | ⟨e1, e2⟩ | ⟨rfl, rfl⟩
              · have HD4 := Lib.hid (show Ok ↔ ∀ s ∈ se, sigOk s = true from ⟨fun h => (HD3.out.1 h).2, fun h => HD3.out.2 ⟨hvo, h⟩⟩)
                clear HD3
                go_cut [59] (fun t wr => t = .bool false ∧ W = wr)
                case first =>
                  rcases hvo with e | ⟨rfl, rfl⟩
                  · have q5 : ((vo.size : Int) != 20) = false := by simp [e]
                    clear e
                    go_wp2_with (fail)
                    go_meet
                    case rel => exact ⟨rfl, rfl⟩
                  · go_wp2_with (fail)
                    go_meet
                    case rel => exact ⟨rfl, rfl⟩
                case rest =>
                  obtain ⟨rfl, rfl⟩ := hcut
                  clear hvo KA2
                  go_upto_region 12 with (fail)
                  clear x0 x1 x2 x3 x4 x5 x6 x7 x8 x9 x10
                  go_loopw [63] (fun c wr => ∃ k : Nat, k ≤ se.length ∧ c = .int .i64 k ∧ Hid (∀ j s, j < k → se[j]? = some s → sigOk s = true) ∧ Hid (Below w.heap.size w wr)) (fun c _ => se.length - (intOf c).toNat)
                  case atStart => exact ⟨0, Nat.zero_le _, rfl, Lib.hid (fun _ _ h => by omega), HB⟩
                  case round =>
                    obtain ⟨k, hk, rfl, hto, hb⟩ := hrel
                    clear HB
                    have HB := Lib.hid hb.out
                    clear hb
                    by_cases hlt : k < se.length
                    · have hg := List.getElem?_eq_getElem hlt
                      obtain ⟨a, rfl, hc⟩ := (RowE.below encG HG.out HB.out (Nat.le_refl _)).atG k se[k] hg
                      have hsk := HOK.out se[k] (List.getElem_mem hlt)
                      generalize se[k] = s at *
                      obtain ⟨⟨r0, r1, r2, r3⟩, ⟨s0, s1, s2, s3⟩, v⟩ := s
                      have c0 := hc 0 _ rfl
                      have c1 := hc 1 _ rfl
                      have c2 := hc 2 _ rfl
                      have c3 := hc 3 _ rfl
                      have c4 := hc 4 _ rfl
                      have c5 := hc 5 _ rfl
                      have c6 := hc 6 _ rfl
                      have c7 := hc 7 _ rfl
                      have c8 := hc 8 _ rfl
                      clear hc
                      replace c0 : wr.cell? (a.add (k * 9)) = _ := c0
                      replace c1 : wr.cell? ⟨(a.add (k * 9)).block, (a.add (k * 9)).off + 1, none⟩ = _ := c1
                      replace c2 : wr.cell? ⟨(a.add (k * 9)).block, (a.add (k * 9)).off + 2, none⟩ = _ := c2
                      replace c3 : wr.cell? ⟨(a.add (k * 9)).block, (a.add (k * 9)).off + 3, none⟩ = _ := c3
                      replace c4 : wr.cell? ⟨(a.add (k * 9)).block, (a.add (k * 9)).off + 4, none⟩ = _ := c4
                      replace c5 : wr.cell? ⟨(a.add (k * 9)).block, (a.add (k * 9)).off + 5, none⟩ = _ := c5
                      replace c6 : wr.cell? ⟨(a.add (k * 9)).block, (a.add (k * 9)).off + 6, none⟩ = _ := c6
                      replace c7 : wr.cell? ⟨(a.add (k * 9)).block, (a.add (k * 9)).off + 7, none⟩ = _ := c7
                      replace c8 : wr.cell? ⟨(a.add (k * 9)).block, (a.add (k * 9)).off + 8, none⟩ = _ := c8
                      try simp only at c0 c1 c2 c3 c4 c5 c6 c7 c8
                      obtain ⟨t, KS⟩ := sigB_any ((r0, r1, r2, r3), (s0, s1, s2, s3), v) hsk (wr.alloc (.cells (sgc ((r0, r1, r2, r3), (s0, s1, s2, s3), v)) 80))
                      have HB2 := Lib.hid (HB.out.alloc HB.out.size (.cells (sgc ((r0, r1, r2, r3), (s0, s1, s2, s3), v)) 80))
                      cases e : sigOk ((r0, r1, r2, r3), (s0, s1, s2, s3), v)
                      · rw [e] at KS
                        have KS := Lib.hid KS
                        have hr := HN.out (fun h => by have := HD4.out.1 h _ (List.mem_of_getElem? hg); rw [e] at this; cases this)
                        clear hg e hsk
                        go_wp2_with (go_at_call 49; refine KS.out.mono ?_; rintro e w3 ⟨rfl, hb⟩; have HB3 := Lib.hid (HB2.out.trans (hb.mono HB2.out.size)); clear hb)
                        go_ret
                        exact ⟨by first | rfl | (rw [hr]; rfl), HB3.out⟩
                      · rw [e] at KS
                        have KS := Lib.hid KS
                        have hn : Hid (∀ j s, j < k + 1 → se[j]? = some s → sigOk s = true) := Lib.hid (fun j s hj hs => by
                          by_cases e2 : j = k
                          · subst e2; rw [hg] at hs; injection hs with hs; subst hs; exact e
                          · exact hto.out j s (by omega) hs)
                        clear hg e hsk hto
                        go_wp2_with (go_at_call 49; refine KS.out.mono ?_; rintro e w3 ⟨rfl, hb⟩; have HB3 := Lib.hid (HB2.out.trans (hb.mono HB2.out.size)); clear hb)
                        exact ⟨⟨k + 1, by omega, by simp, hn, HB3⟩, by simp [intOf]; omega⟩
                    · obtain rfl : k = se.length := by omega
                      have hr := HY.out (HD4.out.2 (fun s hs => by
                        obtain ⟨j, hj⟩ := List.getElem?_of_mem hs
                        exact hto.out j s (List.getElem?_eq_some_iff.1 hj).1 hj))
                      clear hto
                      go_wp2_with (fail)
                      go_ret
                      exact ⟨by first | rfl | (rw [hr]; rfl), HB.out⟩
              · have hr := HN.out (fun h => by rcases (HD3.out.1 h).1 with h | ⟨h, _⟩; exact e1 h; exact e2 h)
                have q5 : ((vo.size : Int) != 20) = true := by simp; omega
                have q6 : ¬ vo.toList = [] := by simpa using seq_false e2
                clear e1 e2 HD3
                cases ad
                all_goals
                  go_wp2_with (fail)
                  go_ret
                  exact ⟨by first | rfl | (rw [hr]; rfl), HB.out⟩
              · have hr := HN.out (fun h => by rcases (HD3.out.1 h).1 with h | ⟨_, h⟩; cases h; cases h)
                clear HD3
                go_wp2_with (fail)
                go_ret
                exact ⟨by first | rfl | (rw [hr]; rfl), HB.out⟩
            · have hr := HN.out (fun h => c4 (HD2.out.1 h).2.2.2.1)
              have q4 : (se.length : Int) > 16 := by omega
              clear c1 c2 c3 c4 HD2
              go_wp2_with (go_at_call 48; refine KA2.out.mono ?_; rintro e w1 ⟨rfl, rfl⟩)
              go_ret
              exact ⟨by first | rfl | (rw [hr]; rfl), HB.out⟩
          · have hr := HN.out (fun h => c3 (HD2.out.1 h).2.2.1)
            rw [setL_false c3] at KA2
            have KA2 := Lib.hid KA2
            clear c1 c2 c3 HD2
            go_wp2_with (go_at_call 48; refine KA2.out.mono ?_; rintro e w1 ⟨rfl, rfl⟩)
            go_ret
            exact ⟨by first | rfl | (rw [hr]; rfl), HB.out⟩
        · have hr := HN.out (fun h => c2 (HD2.out.1 h).2.1)
          have q2 : (va.size : Int) > 8 := by omega
          clear c1 c2 HD2 KA2
          go_wp2_with (fail)
          go_ret
          exact ⟨by first | rfl | (rw [hr]; rfl), HB.out⟩
      · have hr := HN.out (fun h => c1 (HD2.out.1 h).1)
        have q1 : ((pr.size : Int) != 20) = true := by simp; omega
        clear c1 HD2 KA2
        go_wp2_with (fail)
        go_ret
        exact ⟨by first | rfl | (rw [hr]; rfl), HB.out⟩
end Go.Proofs.Ythipnbiilobjeaa

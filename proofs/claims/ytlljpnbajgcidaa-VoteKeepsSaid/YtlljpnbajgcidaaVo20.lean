/- Vote: the document's put. -/
import Derived.Test.YtlljpnbajgcidaaVo19
import Derived.Deep.DeepCutAuto
namespace Go.Proofs.Ytlljpnbajgcidaa
open Go.RowKit Go.Shelf

set_option maxRecDepth 100000 in
set_option maxHeartbeats 4000000 in
theorem put_any (v : Value) (l : List Bal) (b : Bal) (w : World) (h : RowE encB w v l) (hl : l.length ≤ 400000) :
    Calls Try.prog 37 #[v, balV b] w fun e w' => ∃ v', e = .returned v' ∧ OwnE encB 29 w' (w.heap.size + 1) v' (putL l b) ∧ Below w.heap.size w w' := by
  obtain ⟨p, cap, rfl, h1, h2⟩ := h.shape
  have H := Lib.hid h
  clear h
  obtain ⟨b1, b2, b3⟩ := b
  have KA := fun x W => ahead_any x (b1, b2, b3) W
  have O0 : Hid (OwnE encB 29 ((w.alloc (.cells #[.string b1, .string b2, .bool b3] 29)).alloc (.cells #[] 29)) (w.heap.size + 1) (.slice (some ⟨w.heap.size + 1, 0, none⟩) 0 0) []) := Lib.hid (by
    have := OwnE.start encB (T := 29) (w := w.alloc (.cells #[.string b1, .string b2, .bool b3] 29)) (base := w.heap.size + 1) (by simp)
    simpa using this)
  have R0 := Lib.hid ((RowAt.new w #[.string b1, .string b2, .bool b3] 29).alloc (.cells #[] 29))
  have B0 := Lib.hid (belowA2 w (.cells #[.string b1, .string b2, .bool b3] 29) (.cells #[] 29))
  go_enter Try.func37, Try.ntmps37
  go_wp2
  go_loopw [5, 6, 12] (fun s5 s6 c wr => ∃ (k : Nat) (v' : Value) (out : List Bal) (d : Bool), k ≤ l.length ∧ c = .int .i64 k ∧ s5 = v' ∧ s6 = .bool d ∧ Hid ((l.take k).foldl (putS (b1, b2, b3)) ([], false) = (out, d)) ∧ Hid (OwnE encB 29 wr (w.heap.size + 1) v' out) ∧ Hid (RowAt wr w.heap.size #[.string b1, .string b2, .bool b3] 29) ∧ Hid (Below w.heap.size w wr)) (fun _ _ c _ => l.length - (intOf c).toNat)
  case atStart => exact ⟨0, _, [], false, Nat.zero_le _, rfl, rfl, rfl, Lib.hid (by simp), O0, R0, B0⟩
  case round =>
    obtain ⟨k, v', out, d, hk, rfl, rfl, rfl, hf, ho, hr, hb⟩ := hrel
    by_cases hlt : k < l.length
    · have hg := List.getElem?_eq_getElem hlt
      obtain ⟨_, _, _, HA⟩ := (RowE.below encB H.out hb.out (Nat.le_refl _)).atB
      obtain ⟨ad, rfl, c0, c1, c2⟩ := HA k l[k] hg
      clear HA
      have hst := foldl_take_step (putS (b1, b2, b3)) ([], false) l hlt
      rw [hf.out] at hst
      have hol := putF_len (b1, b2, b3) (l.take k) ([], false)
      rw [hf.out] at hol
      have htl : (l.take k).length ≤ k := List.length_take_le _ _
      simp only [List.length_nil] at hol
      generalize l[k] = x at *
      obtain ⟨x1, x2, x3⟩ := x
      have HST := Lib.hid hst
      have HO := Lib.hid (OwnE.below encB ho.out (belowA wr (.cells #[.string x1, .string x2, .bool x3] 29)) (Nat.le_refl _))
      have HN := Lib.hid (fun h => Nat.lt_irrefl _ (World.ownsRow.lt ho.out wr.heap.size h).2)
      have HRb := Lib.hid (hr.out.alloc (.cells #[.string x1, .string x2, .bool x3] 29))
      have HRx := Lib.hid (RowAt.new wr #[.string x1, .string x2, .bool x3] 29)
      have hbz : w.heap.size < wr.heap.size := hr.out.lt
      have HB := Lib.hid (hb.out.alloc (Nat.le_of_lt hbz) (.cells #[.string x1, .string x2, .bool x3] 29))
      have hws : w.heap.size + 1 ≤ (wr.alloc (.cells #[.string x1, .string x2, .bool x3] 29)).heap.size := by simp; omega
      clear hst ho hr hb hf
      go_upto_region 6 with (fail)
      clear c0 c1 c2
      generalize wr.alloc (.cells #[.string x1, .string x2, .bool x3] 29) = W at *
      generalize wr.heap.size = kx at *
      have KX := KA (x1, x2, x3)
      clear KA O0 R0 B0
      obtain ⟨y0, y1, y2, yf0, yf1, yf2⟩ := HRb.out.c3
      obtain ⟨t0, t1, t2, tf0, tf1, tf2⟩ := HRx.out.c3
      cases d <;> cases e : ltB (x1, x2, x3) (b1, b2, b3)
      all_goals
        rw [e] at KX
        have KX := Lib.hid KX
        have HE := Lib.hid e
        clear e
        go_upto_region 9 with (first
          | (go_at_call 20; refine (KX.out _).mono ?_; rintro e w2 ⟨rfl, hb2⟩; replace HO := Lib.hid (OwnE.below encB HO.out hb2 (Nat.le_refl _)); replace HRb := Lib.hid (HRb.out.belowS hb2); replace HRx := Lib.hid (HRx.out.belowS hb2); replace HB := Lib.hid (HB.out.trans (hb2.mono HB.out.size)); replace hws := Nat.le_trans hws hb2.size; clear hb2 y0 y1 y2 yf0 yf1 yf2 t0 t1 t2 tf0 tf1 tf2; obtain ⟨y0, y1, y2, yf0, yf1, yf2⟩ := HRb.out.c3; obtain ⟨t0, t1, t2, tf0, tf1, tf2⟩ := HRx.out.c3)
          | (at_builtin; refine wpList_append_oneB rfl _ _ rfl (w.heap.size + 1) _ out rfl HO.out (b1, b2, b3) rfl (by omega) hws ?_; intro v2 w2 ho2 hb2 hk2; replace HRx := Lib.hid (hk2 _ _ _ HRx.out HN.out); replace HRb := Lib.hid (HRb.out.below hb2 (by omega)); replace HB := Lib.hid (HB.out.trans (hb2.mono (by omega))); replace hws := Nat.le_trans hws hb2.size; replace HO := Lib.hid ho2; clear hb2 hk2 ho2 y0 y1 y2 yf0 yf1 yf2 t0 t1 t2 tf0 tf1 tf2; obtain ⟨y0, y1, y2, yf0, yf1, yf2⟩ := HRb.out.c3; obtain ⟨t0, t1, t2, tf0, tf1, tf2⟩ := HRx.out.c3))
      all_goals
        by_cases e2 : x2 = b2
        · have q2 := seq_true e2
          have E2 := Lib.hid e2
          clear e2
          by_cases e1 : x1 = b1
          · have q1 := seq_true e1
            have E1 := Lib.hid e1
            clear e1
            go_wp2_with (fail)
            refine ⟨⟨k + 1, _, _, _, by omega, by simp, rfl, rfl, Lib.hid ?_, HO, HRb, HB⟩, by simp [intOf]; omega⟩
            rw [HST.out]
            simp only [putS, HE.out]; simp [E1.out, E2.out]
          · have q1 := seq_false e1
            have E1 := Lib.hid e1
            clear e1
            go_wp2_with (at_builtin; refine wpList_append_oneB rfl _ _ rfl (w.heap.size + 1) _ _ rfl HO.out (x1, x2, x3) rfl (by first | omega | (simp; omega)) hws ?_; intro v3 w3 ho3 hb3 hk3; replace HRb := Lib.hid (HRb.out.below hb3 (by omega)); replace HB := Lib.hid (HB.out.trans (hb3.mono (by omega))); replace HO := Lib.hid ho3; clear hb3 hk3 ho3 y0 y1 y2 yf0 yf1 yf2 t0 t1 t2 tf0 tf1 tf2)
            refine ⟨⟨k + 1, _, _, _, by omega, by simp, rfl, rfl, Lib.hid ?_, HO, HRb, HB⟩, by simp [intOf]; omega⟩
            rw [HST.out]
            simp only [putS, HE.out]; simp [E1.out, E2.out]
        · have q2 := seq_false e2
          have E2 := Lib.hid e2
          clear e2
          go_wp2_with (at_builtin; refine wpList_append_oneB rfl _ _ rfl (w.heap.size + 1) _ _ rfl HO.out (x1, x2, x3) rfl (by first | omega | (simp; omega)) hws ?_; intro v3 w3 ho3 hb3 hk3; replace HRb := Lib.hid (HRb.out.below hb3 (by omega)); replace HB := Lib.hid (HB.out.trans (hb3.mono (by omega))); replace HO := Lib.hid ho3; clear hb3 hk3 ho3 y0 y1 y2 yf0 yf1 yf2 t0 t1 t2 tf0 tf1 tf2)
          refine ⟨⟨k + 1, _, _, _, by omega, by simp, rfl, rfl, Lib.hid ?_, HO, HRb, HB⟩, by simp [intOf]; omega⟩
          rw [HST.out]
          simp only [putS, HE.out]; simp [E2.out]
    · obtain rfl : k = l.length := by omega
      have hol := putF_len (b1, b2, b3) l ([], false)
      have hf2 := hf.out
      rw [List.take_length] at hf2
      rw [hf2] at hol
      simp only [List.length_nil] at hol
      have HF := Lib.hid hf2
      have HO := Lib.hid ho.out
      have HRb := Lib.hid hr.out
      have HB := Lib.hid hb.out
      have hws : w.heap.size + 1 ≤ wr.heap.size := hr.out.lt
      clear hf2 hf ho hr hb O0 R0 B0 KA
      obtain ⟨y0, y1, y2, yf0, yf1, yf2⟩ := HRb.out.c3
      cases d
      · go_wp2_with (at_builtin; refine wpList_append_oneB rfl _ _ rfl (w.heap.size + 1) _ _ rfl HO.out (b1, b2, b3) rfl (by omega) hws ?_; intro v3 w3 ho3 hb3 hk3; replace HB := Lib.hid (HB.out.trans (hb3.mono (by omega))); replace HO := Lib.hid ho3; clear hb3 hk3 ho3 y0 y1 y2 yf0 yf1 yf2)
        go_ret
        refine ⟨_, rfl, ?_, HB.out⟩
        have := HO.out
        rwa [show putL l (b1, b2, b3) = out ++ [(b1, b2, b3)] from by simp [putL, HF.out]]
      · go_wp2_with (fail)
        go_ret
        refine ⟨_, rfl, ?_, HB.out⟩
        have := HO.out
        rwa [show putL l (b1, b2, b3) = out from by simp [putL, HF.out]]
end Go.Proofs.Ytlljpnbajgcidaa

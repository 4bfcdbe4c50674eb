/- Vote: the document's set with an address, or without it. -/
import Derived.Test.YtlljpnbajgcidaaVo20
namespace Go.Proofs.Ytlljpnbajgcidaa
open Go.RowKit Go.Shelf

def setS (a : ByteArray) (s : List ByteArray × Bool) (x : ByteArray) : List ByteArray × Bool :=
  ((s.1 ++ (if !s.2 && ltS a x then [a] else [])) ++ (if decide (x ≠ a) then [x] else []), s.2 || ltS a x)
def setToL (S : List ByteArray) (a : ByteArray) (add : Bool) : List ByteArray := (S.foldl (setS a) ([], !add)).1 ++ (if (S.foldl (setS a) ([], !add)).2 then [] else [a])
theorem setS_len (b : ByteArray) (s : List ByteArray × Bool) (x : ByteArray) : (setS b s x).1.length ≤ s.1.length + 2 := by
  unfold setS; simp only [List.length_append]; split <;> split <;> simp
theorem setF_len (b : ByteArray) : ∀ (V : List ByteArray) s, (V.foldl (setS b) s).1.length ≤ s.1.length + 2 * V.length
  | [], s => by simp
  | x :: V, s => by have := setF_len b V (setS b s x); have := setS_len b s x; simp only [List.foldl_cons, List.length_cons]; omega

set_option maxRecDepth 100000 in
set_option maxHeartbeats 4000000 in
theorem setTo_any (v : Value) (l : List ByteArray) (b : ByteArray) (add : Bool) (w : World) (h : RowE encS w v l) (hl : l.length ≤ 400000) :
    Calls Try.prog 38 #[v, .string b, .bool add] w fun e w' => ∃ v', e = .returned v' ∧ OwnE encS 9 w' w.heap.size v' (setToL l b add) ∧ Below w.heap.size w w' := by
  obtain ⟨p, cap, rfl, h1, h2⟩ := h.shape
  have H := Lib.hid h
  clear h
  have O0 : Hid (OwnE encS 9 (w.alloc (.cells #[] 9)) w.heap.size (.slice (some ⟨w.heap.size, 0, none⟩) 0 0) []) := Lib.hid (OwnE.start encS (Nat.le_refl _))
  have B0 := Lib.hid (belowA w (.cells #[] 9))
  go_enter Try.func38, Try.ntmps38
  go_wp2
  go_loopw [7, 8, 10, 16] (fun s5 s6 s10 c wr => ∃ (k : Nat) (v' : Value) (out : List ByteArray) (d : Bool), k ≤ l.length ∧ c = .int .i64 k ∧ s5 = v' ∧ s6 = .bool d ∧ Hid ((l.take k).foldl (setS b) ([], !add) = (out, d)) ∧ Hid (OwnE encS 9 wr w.heap.size v' out) ∧ Hid (Below w.heap.size w wr)) (fun _ _ _ c _ => l.length - (intOf c).toNat)
  case atStart => exact ⟨0, _, [], !add, Nat.zero_le _, rfl, rfl, rfl, Lib.hid (by simp), O0, B0⟩
  case round =>
    obtain ⟨k, v', out, d, hk, rfl, rfl, rfl, hf, ho, hb⟩ := hrel
    by_cases hlt : k < l.length
    · have hg := List.getElem?_eq_getElem hlt
      obtain ⟨_, _, _, HA⟩ := (RowE.below encS H.out hb.out (Nat.le_refl _)).atS
      obtain ⟨ad, rfl, c0⟩ := HA k l[k] hg
      clear HA
      have hst := foldl_take_step (setS b) ([], !add) l hlt
      rw [hf.out] at hst
      have hol := setF_len b (l.take k) ([], !add)
      rw [hf.out] at hol
      have htl : (l.take k).length ≤ k := List.length_take_le _ _
      simp only [List.length_nil] at hol
      generalize l[k] = x at *
      have HST := Lib.hid hst
      have HO := Lib.hid ho.out
      have HB := Lib.hid hb.out
      have hws := hb.out.size
      clear hst ho hb hf O0 B0
      have htri : (Op.bytesLess x.toList b.toList = true ∧ (x.toList == b.toList) = false ∧ Hid (ltS b x = false) ∧ Hid (decide (x ≠ b) = true)) ∨ (Op.bytesLess x.toList b.toList = false ∧ (x.toList == b.toList) = true ∧ Hid (ltS b x = false) ∧ Hid (decide (x ≠ b) = false)) ∨ (Op.bytesLess x.toList b.toList = false ∧ (x.toList == b.toList) = false ∧ Hid (ltS b x = true) ∧ Hid (decide (x ≠ b) = true)) := by
        rcases ltS_tri x b with e | e | e
        · exact .inl ⟨e, seq_false (ltS_ne e), Lib.hid (ltS_asym e), Lib.hid (by simp [ltS_ne e])⟩
        · exact .inr (.inl ⟨by subst e; exact ltS_irr x, seq_true e, Lib.hid (by subst e; exact ltS_irr x), Lib.hid (by simp [e])⟩)
        · exact .inr (.inr ⟨ltS_asym e, seq_false (Ne.symm (ltS_ne e)), Lib.hid e, Lib.hid (by simp [Ne.symm (ltS_ne e)])⟩)
      cases d <;> rcases htri with ⟨p1, q1, HE, E1⟩ | ⟨p1, q1, HE, E1⟩ | ⟨p1, q1, HE, E1⟩
      all_goals
        go_wp2_with (first
          | (at_builtin; refine wpList_append_oneS rfl _ _ rfl w.heap.size _ _ rfl HO.out b rfl (by omega) hws ?_; intro v2 w2 ho2 hb2 hk2; replace HB := Lib.hid (HB.out.trans hb2); replace hws := Nat.le_trans hws hb2.size; replace HO := Lib.hid ho2; clear hb2 hk2 ho2)
          | (at_builtin; refine wpList_append_oneS rfl _ _ rfl w.heap.size _ _ rfl HO.out x rfl (by first | omega | (simp; omega)) hws ?_; intro v3 w3 ho3 hb3 hk3; replace HB := Lib.hid (HB.out.trans hb3); replace HO := Lib.hid ho3; clear hb3 hk3 ho3))
        refine ⟨⟨k + 1, _, _, _, by omega, by simp, rfl, rfl, Lib.hid ?_, HO, HB⟩, by simp [intOf]; omega⟩
        rw [HST.out]
        simp only [setS, HE.out, E1.out]; simp
    · obtain rfl : k = l.length := by omega
      have hol := setF_len b l ([], !add)
      have hf2 := hf.out
      rw [List.take_length] at hf2
      rw [hf2] at hol
      simp only [List.length_nil] at hol
      have HF := Lib.hid hf2
      have HO := Lib.hid ho.out
      have HB := Lib.hid hb.out
      have hws := hb.out.size
      clear hf2 hf ho hb O0 B0
      cases d
      · go_wp2_with (at_builtin; refine wpList_append_oneS rfl _ _ rfl w.heap.size _ _ rfl HO.out b rfl (by omega) hws ?_; intro v3 w3 ho3 hb3 hk3; replace HB := Lib.hid (HB.out.trans hb3); replace HO := Lib.hid ho3; clear hb3 hk3 ho3)
        go_ret
        refine ⟨_, rfl, ?_, HB.out⟩
        have := HO.out
        rwa [show setToL l b add = out ++ [b] from by simp [setToL, HF.out]]
      · go_wp2_with (fail)
        go_ret
        refine ⟨_, rfl, ?_, HB.out⟩
        have := HO.out
        rwa [show setToL l b add = out from by simp [setToL, HF.out]]
end Go.Proofs.Ytlljpnbajgcidaa

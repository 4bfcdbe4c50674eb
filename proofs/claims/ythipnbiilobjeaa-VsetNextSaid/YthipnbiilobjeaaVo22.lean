/- Vote: one more element behind the call's own; the document's put. Vote: the document's put. Vote: the document's set with an address, or without it. Vote: the document's Cast: the laws it wants. -/
import Derived.Test.YthipnbiilobjeaaVo17
import Derived.Deep.LoopGhost
import Derived.Deep.DeepCutAuto
namespace Go.Proofs.Ythipnbiilobjeaa
open Go.RowKit Go.Shelf

theorem wpList_append_oneB {ops : Array Oper} {rest : List Oper} {o : Oper} {a : Act} {Q : Exit → Act → World → Prop} {W : World} (hgd : o.guard = Option.none) (s x : Operand)
    (ho : o.op = .call { callee := .builtin .append, args := #[s, x], argTypes := #[43, 43] }) (base : Nat) (v : Value) (l : List Bal) (hs : a.eval s = v) (hown : OwnE encB 92 W base v l)
    (b : Bal) (hx : a.eval x = .slice (some ⟨W.heap.size, 0, none⟩) 1 1) (hb : l.length ≤ 1000000) (hbase : base ≤ W.heap.size)
    (h : ∀ v' w', OwnE encB 92 w' base v' (l ++ [b]) → Below base W w' → (∀ k cs T, RowAt W k cs T → v.ownBlock ≠ some k → RowAt w' k cs T) → wpList Try.prog ops Q rest (a.put o.dst v') w') : wpList Try.prog ops Q (o :: rest) a (W.alloc (balO b)) := by
  obtain ⟨i0, hi, hz0, hz1, hz2⟩ := info_parts info_bal
  have hown2 : OwnE encB 92 (W.alloc (balO b)) base v l := OwnE.below encB hown (belowA W _) (Nat.le_refl _)
  have hsrc : RowE encB (W.alloc (balO b)) (.slice (some ⟨W.heap.size, 0, none⟩) 1 1) [b] := OwnE.row encB (OwnE.lit encB (Nat.le_refl _) b _ rfl)
  rcases hsrc with ⟨hh, _⟩ | ⟨ad, cap, hh, h1, h2, hc⟩
  · cases hh
  · injection hh with e1 e2 e3
    injection e1 with e1
    subst e1 e3
    refine wpList_append_own _ hgd s x 43 ho base 92 i0 _ 3 40 Try.underlying43 hi hz0 hz1 hz2 rfl (by decide) v l.length (flat encB l) hs hown2 ⟨W.heap.size, 0, none⟩ 1 1 (flat encB [b]) hx (flat_length encB [b]) hc (flat_one encB [b]) (by unfold maxLen; omega) (by omega) (by simp; omega) ?_
    intro v' w' hown' hg hn
    refine h v' w' ?_ (below_grown hown2 hg (by simp; omega) _ ((Below.refl base W).alloc hbase _)) ?_
    · unfold OwnE
      rw [List.length_append, flat_append]
      exact hown'
    · intro k cs T hk hne
      exact (hk.alloc _).grown hg (fun e => hne e.symm)

theorem wpList_append_oneS {ops : Array Oper} {rest : List Oper} {o : Oper} {a : Act} {Q : Exit → Act → World → Prop} {W : World} (hgd : o.guard = Option.none) (s x : Operand)
    (ho : o.op = .call { callee := .builtin .append, args := #[s, x], argTypes := #[33, 33] }) (base : Nat) (v : Value) (l : List ByteArray) (hs : a.eval s = v) (hown : OwnE encS 9 W base v l)
    (b : ByteArray) (hx : a.eval x = .slice (some ⟨W.heap.size, 0, none⟩) 1 1) (hb : l.length ≤ 1000000) (hbase : base ≤ W.heap.size)
    (h : ∀ v' w', OwnE encS 9 w' base v' (l ++ [b]) → Below base W w' → (∀ k cs T, RowAt W k cs T → v.ownBlock ≠ some k → RowAt w' k cs T) → wpList Try.prog ops Q rest (a.put o.dst v') w') : wpList Try.prog ops Q (o :: rest) a (W.alloc (.cells #[.string b] 9)) := by
  obtain ⟨i0, hi, hz0, hz1, hz2⟩ := info_parts info_str
  have hown2 : OwnE encS 9 (W.alloc (.cells #[.string b] 9)) base v l := OwnE.below encS hown (belowA W _) (Nat.le_refl _)
  have hsrc : RowE encS (W.alloc (.cells #[.string b] 9)) (.slice (some ⟨W.heap.size, 0, none⟩) 1 1) [b] := OwnE.row encS (OwnE.lit encS (Nat.le_refl _) b _ rfl)
  rcases hsrc with ⟨hh, _⟩ | ⟨ad, cap, hh, h1, h2, hc⟩
  · cases hh
  · injection hh with e1 e2 e3
    injection e1 with e1
    subst e1 e3
    refine wpList_append_own _ hgd s x 33 ho base 9 i0 _ 1 16 Try.underlying33 hi hz0 hz1 hz2 rfl (by decide) v l.length (flat encS l) hs hown2 ⟨W.heap.size, 0, none⟩ 1 1 (flat encS [b]) hx (flat_length encS [b]) hc (flat_one encS [b]) (by unfold maxLen; omega) (by omega) (by simp; omega) ?_
    intro v' w' hown' hg hn
    refine h v' w' ?_ (below_grown hown2 hg (by simp; omega) _ ((Below.refl base W).alloc hbase _)) ?_
    · unfold OwnE
      rw [List.length_append, flat_append]
      exact hown'
    · intro k cs T hk hne
      exact (hk.alloc _).grown hg (fun e => hne e.symm)

/-- One step of put, and put. -/
def putS (b : Bal) (s : List Bal × Bool) (x : Bal) : List Bal × Bool :=
  ((s.1 ++ (if !s.2 && !ltB x b then [b] else [])) ++ (if decide (x.2.1 ≠ b.2.1) || decide (x.1 ≠ b.1) then [x] else []), s.2 || !ltB x b)
def putL (V : List Bal) (b : Bal) : List Bal := (V.foldl (putS b) ([], false)).1 ++ (if (V.foldl (putS b) ([], false)).2 then [] else [b])
theorem putS_len (b : Bal) (s : List Bal × Bool) (x : Bal) : (putS b s x).1.length ≤ s.1.length + 2 := by
  unfold putS; simp only [List.length_append]; split <;> split <;> simp
theorem putF_len (b : Bal) : ∀ (V : List Bal) s, (V.foldl (putS b) s).1.length ≤ s.1.length + 2 * V.length
  | [], s => by simp
  | x :: V, s => by have := putF_len b V (putS b s x); have := putS_len b s x; simp only [List.foldl_cons, List.length_cons]; omega
theorem foldl_take_step {α β : Type} (f : β → α → β) (s : β) (V : List α) {k : Nat} (h : k < V.length) : (V.take (k + 1)).foldl f s = f ((V.take k).foldl f s) V[k] := by
  rw [List.take_add_one, List.getElem?_eq_getElem h, List.foldl_append]; rfl
end Go.Proofs.Ythipnbiilobjeaa

namespace Go.Proofs.Ythipnbiilobjeaa
open Go.RowKit Go.Shelf

set_option maxRecDepth 100000 in
set_option maxHeartbeats 4000000 in
theorem put_any (v : Value) (l : List Bal) (b : Bal) (w : World) (h : RowE encB w v l) (hl : l.length ≤ 400000) :
    Calls Try.prog 113 #[v, balV b] w fun e w' => ∃ v', e = .returned v' ∧ OwnE encB 92 w' (w.heap.size + 1) v' (putL l b) ∧ Below w.heap.size w w' := by
  obtain ⟨p, cap, rfl, h1, h2⟩ := h.shape
  have H := Lib.hid h
  clear h
  obtain ⟨b1, b2, b3⟩ := b
  have KA := fun x W => ahead_any x (b1, b2, b3) W
  have O0 : Hid (OwnE encB 92 ((w.alloc (.cells #[.string b1, .string b2, .bool b3] 92)).alloc (.cells #[] 92)) (w.heap.size + 1) (.slice (some ⟨w.heap.size + 1, 0, none⟩) 0 0) []) := Lib.hid (by
    have := OwnE.start encB (T := 92) (w := w.alloc (.cells #[.string b1, .string b2, .bool b3] 92)) (base := w.heap.size + 1) (by simp)
    simpa using this)
  have R0 := Lib.hid ((RowAt.new w #[.string b1, .string b2, .bool b3] 92).alloc (.cells #[] 92))
  have B0 := Lib.hid (belowA2 w (.cells #[.string b1, .string b2, .bool b3] 92) (.cells #[] 92))
  go_enter Try.func113, Try.ntmps113
  go_wp2
  go_loopw [5, 6, 12] (fun s5 s6 c wr => ∃ (k : Nat) (v' : Value) (out : List Bal) (d : Bool), k ≤ l.length ∧ c = .int .i64 k ∧ s5 = v' ∧ s6 = .bool d ∧ Hid ((l.take k).foldl (putS (b1, b2, b3)) ([], false) = (out, d)) ∧ Hid (OwnE encB 92 wr (w.heap.size + 1) v' out) ∧ Hid (RowAt wr w.heap.size #[.string b1, .string b2, .bool b3] 92) ∧ Hid (Below w.heap.size w wr)) (fun _ _ c _ => l.length - (intOf c).toNat)
  case atStart => exact ⟨0, _, [], false, Nat.zero_le _, rfl, rfl, rfl, Lib.hid (by simp), O0, R0, B0⟩
  case round =>
    obtain ⟨k, v', out, d, hk, rfl, rfl, rfl, hf, ho, hr, hb⟩ := hrel
    by_cases hlt : k < l.length
    · have hg := List.getElem?_eq_getElem hlt
      obtain ⟨_, _, _, HA⟩ := (RowE.below encB H.out hb.out (Nat.le_refl _)).atB
      obtain ⟨ad, rfl, c0, c1, c2⟩ := HA k l[k] hg
      clear HA
      have hst := foldl_take_step (putS (b1, b2, b3)) ([], false) l hlt
      rw [hf.out] at hst
      have hol := putF_len (b1, b2, b3) (l.take k) ([], false)
      rw [hf.out] at hol
      have htl : (l.take k).length ≤ k := List.length_take_le _ _
      simp only [List.length_nil] at hol
      generalize l[k] = x at *
      obtain ⟨x1, x2, x3⟩ := x
      have HST := Lib.hid hst
      have HO := Lib.hid (OwnE.below encB ho.out (belowA wr (.cells #[.string x1, .string x2, .bool x3] 92)) (Nat.le_refl _))
      have HN := Lib.hid (fun h => Nat.lt_irrefl _ (World.ownsRow.lt ho.out wr.heap.size h).2)
      have HRb := Lib.hid (hr.out.alloc (.cells #[.string x1, .string x2, .bool x3] 92))
      have HRx := Lib.hid (RowAt.new wr #[.string x1, .string x2, .bool x3] 92)
      have hbz : w.heap.size < wr.heap.size := hr.out.lt
      have HB := Lib.hid (hb.out.alloc (Nat.le_of_lt hbz) (.cells #[.string x1, .string x2, .bool x3] 92))
      have hws : w.heap.size + 1 ≤ (wr.alloc (.cells #[.string x1, .string x2, .bool x3] 92)).heap.size := by simp; omega
      clear hst ho hr hb hf
      go_upto_region 6 with (fail)
      clear c0 c1 c2
      generalize wr.alloc (.cells #[.string x1, .string x2, .bool x3] 92) = W at *
      generalize wr.heap.size = kx at *
      have KX := KA (x1, x2, x3)
      clear KA O0 R0 B0
      obtain ⟨y0, y1, y2, yf0, yf1, yf2⟩ := HRb.out.c3
      obtain ⟨t0, t1, t2, tf0, tf1, tf2⟩ := HRx.out.c3
      cases d <;> cases e : ltB (x1, x2, x3) (b1, b2, b3)
      all_goals
        rw [e] at KX
        have KX := Lib.hid KX
        have HE := Lib.hid e
        clear e
        go_upto_region 9 with (first
          | (go_at_call 111; refine (KX.out _).mono ?_; rintro e w2 ⟨rfl, hb2⟩; replace HO := Lib.hid (OwnE.below encB HO.out hb2 (Nat.le_refl _)); replace HRb := Lib.hid (HRb.out.belowS hb2); replace HRx := Lib.hid (HRx.out.belowS hb2); replace HB := Lib.hid (HB.out.trans (hb2.mono HB.out.size)); replace hws := Nat.le_trans hws hb2.size; clear hb2 y0 y1 y2 yf0 yf1 yf2 t0 t1 t2 tf0 tf1 tf2; obtain ⟨y0, y1, y2, yf0, yf1, yf2⟩ := HRb.out.c3; obtain ⟨t0, t1, t2, tf0, tf1, tf2⟩ := HRx.out.c3)
          | (at_builtin; refine wpList_append_oneB rfl _ _ rfl (w.heap.size + 1) _ out rfl HO.out (b1, b2, b3) rfl (by omega) hws ?_; intro v2 w2 ho2 hb2 hk2; replace HRx := Lib.hid (hk2 _ _ _ HRx.out HN.out); replace HRb := Lib.hid (HRb.out.below hb2 (by omega)); replace HB := Lib.hid (HB.out.trans (hb2.mono (by omega))); replace hws := Nat.le_trans hws hb2.size; replace HO := Lib.hid ho2; clear hb2 hk2 ho2 y0 y1 y2 yf0 yf1 yf2 t0 t1 t2 tf0 tf1 tf2; obtain ⟨y0, y1, y2, yf0, yf1, yf2⟩ := HRb.out.c3; obtain ⟨t0, t1, t2, tf0, tf1, tf2⟩ := HRx.out.c3))
      all_goals
        by_cases e2 : x2 = b2
        · have q2 := seq_true e2
          have E2 := Lib.hid e2
          clear e2
          by_cases e1 : x1 = b1
          · have q1 := seq_true e1
            have E1 := Lib.hid e1
            clear e1
            go_wp2_with (fail)
            refine ⟨⟨k + 1, _, _, _, by omega, by simp, rfl, rfl, Lib.hid ?_, HO, HRb, HB⟩, by simp [intOf]; omega⟩
            rw [HST.out]
            simp only [putS, HE.out]; simp [E1.out, E2.out]
          · have q1 := seq_false e1
            have E1 := Lib.hid e1
            clear e1
            go_wp2_with (at_builtin; refine wpList_append_oneB rfl _ _ rfl (w.heap.size + 1) _ _ rfl HO.out (x1, x2, x3) rfl (by first | omega | (simp; omega)) hws ?_; intro v3 w3 ho3 hb3 hk3; replace HRb := Lib.hid (HRb.out.below hb3 (by omega)); replace HB := Lib.hid (HB.out.trans (hb3.mono (by omega))); replace HO := Lib.hid ho3; clear hb3 hk3 ho3 y0 y1 y2 yf0 yf1 yf2 t0 t1 t2 tf0 tf1 tf2)
            refine ⟨⟨k + 1, _, _, _, by omega, by simp, rfl, rfl, Lib.hid ?_, HO, HRb, HB⟩, by simp [intOf]; omega⟩
            rw [HST.out]
            simp only [putS, HE.out]; simp [E1.out, E2.out]
        · have q2 := seq_false e2
          have E2 := Lib.hid e2
          clear e2
          go_wp2_with (at_builtin; refine wpList_append_oneB rfl _ _ rfl (w.heap.size + 1) _ _ rfl HO.out (x1, x2, x3) rfl (by first | omega | (simp; omega)) hws ?_; intro v3 w3 ho3 hb3 hk3; replace HRb := Lib.hid (HRb.out.below hb3 (by omega)); replace HB := Lib.hid (HB.out.trans (hb3.mono (by omega))); replace HO := Lib.hid ho3; clear hb3 hk3 ho3 y0 y1 y2 yf0 yf1 yf2 t0 t1 t2 tf0 tf1 tf2)
          refine ⟨⟨k + 1, _, _, _, by omega, by simp, rfl, rfl, Lib.hid ?_, HO, HRb, HB⟩, by simp [intOf]; omega⟩
          rw [HST.out]
          simp only [putS, HE.out]; simp [E2.out]
    · obtain rfl : k = l.length := by omega
      have hol := putF_len (b1, b2, b3) l ([], false)
      have hf2 := hf.out
      rw [List.take_length] at hf2
      rw [hf2] at hol
      simp only [List.length_nil] at hol
      have HF := Lib.hid hf2
      have HO := Lib.hid ho.out
      have HRb := Lib.hid hr.out
      have HB := Lib.hid hb.out
      have hws : w.heap.size + 1 ≤ wr.heap.size := hr.out.lt
      clear hf2 hf ho hr hb O0 R0 B0 KA
      obtain ⟨y0, y1, y2, yf0, yf1, yf2⟩ := HRb.out.c3
      cases d
      · go_wp2_with (at_builtin; refine wpList_append_oneB rfl _ _ rfl (w.heap.size + 1) _ _ rfl HO.out (b1, b2, b3) rfl (by omega) hws ?_; intro v3 w3 ho3 hb3 hk3; replace HB := Lib.hid (HB.out.trans (hb3.mono (by omega))); replace HO := Lib.hid ho3; clear hb3 hk3 ho3 y0 y1 y2 yf0 yf1 yf2)
        go_ret
        refine ⟨_, rfl, ?_, HB.out⟩
        have := HO.out
        rwa [show putL l (b1, b2, b3) = out ++ [(b1, b2, b3)] from by simp [putL, HF.out]]
      · go_wp2_with (fail)
        go_ret
        refine ⟨_, rfl, ?_, HB.out⟩
        have := HO.out
        rwa [show putL l (b1, b2, b3) = out from by simp [putL, HF.out]]
end Go.Proofs.Ythipnbiilobjeaa

namespace Go.Proofs.Ythipnbiilobjeaa
open Go.RowKit Go.Shelf

def setS (a : ByteArray) (s : List ByteArray × Bool) (x : ByteArray) : List ByteArray × Bool :=
  ((s.1 ++ (if !s.2 && ltS a x then [a] else [])) ++ (if decide (x ≠ a) then [x] else []), s.2 || ltS a x)
def setToL (S : List ByteArray) (a : ByteArray) (add : Bool) : List ByteArray := (S.foldl (setS a) ([], !add)).1 ++ (if (S.foldl (setS a) ([], !add)).2 then [] else [a])
theorem setS_len (b : ByteArray) (s : List ByteArray × Bool) (x : ByteArray) : (setS b s x).1.length ≤ s.1.length + 2 := by
  unfold setS; simp only [List.length_append]; split <;> split <;> simp
theorem setF_len (b : ByteArray) : ∀ (V : List ByteArray) s, (V.foldl (setS b) s).1.length ≤ s.1.length + 2 * V.length
  | [], s => by simp
  | x :: V, s => by have := setF_len b V (setS b s x); have := setS_len b s x; simp only [List.foldl_cons, List.length_cons]; omega

set_option maxRecDepth 100000 in
set_option maxHeartbeats 4000000 in
theorem setTo_any (v : Value) (l : List ByteArray) (b : ByteArray) (add : Bool) (w : World) (h : RowE encS w v l) (hl : l.length ≤ 400000) :
    Calls Try.prog 114 #[v, .string b, .bool add] w fun e w' => ∃ v', e = .returned v' ∧ OwnE encS 9 w' w.heap.size v' (setToL l b add) ∧ Below w.heap.size w w' := by
  obtain ⟨p, cap, rfl, h1, h2⟩ := h.shape
  have H := Lib.hid h
  clear h
  have O0 : Hid (OwnE encS 9 (w.alloc (.cells #[] 9)) w.heap.size (.slice (some ⟨w.heap.size, 0, none⟩) 0 0) []) := Lib.hid (OwnE.start encS (Nat.le_refl _))
  have B0 := Lib.hid (belowA w (.cells #[] 9))
  go_enter Try.func114, Try.ntmps114
  go_wp2
  go_loopw [7, 8, 10, 16] (fun s5 s6 s10 c wr => ∃ (k : Nat) (v' : Value) (out : List ByteArray) (d : Bool), k ≤ l.length ∧ c = .int .i64 k ∧ s5 = v' ∧ s6 = .bool d ∧ Hid ((l.take k).foldl (setS b) ([], !add) = (out, d)) ∧ Hid (OwnE encS 9 wr w.heap.size v' out) ∧ Hid (Below w.heap.size w wr)) (fun _ _ _ c _ => l.length - (intOf c).toNat)
  case atStart => exact ⟨0, _, [], !add, Nat.zero_le _, rfl, rfl, rfl, Lib.hid (by simp), O0, B0⟩
  case round =>
    obtain ⟨k, v', out, d, hk, rfl, rfl, rfl, hf, ho, hb⟩ := hrel
    by_cases hlt : k < l.length
    · have hg := List.getElem?_eq_getElem hlt
      obtain ⟨_, _, _, HA⟩ := (RowE.below encS H.out hb.out (Nat.le_refl _)).atS
      obtain ⟨ad, rfl, c0⟩ := HA k l[k] hg
      clear HA
      have hst := foldl_take_step (setS b) ([], !add) l hlt
      rw [hf.out] at hst
      have hol := setF_len b (l.take k) ([], !add)
      rw [hf.out] at hol
      have htl : (l.take k).length ≤ k := List.length_take_le _ _
      simp only [List.length_nil] at hol
      generalize l[k] = x at *
      have HST := Lib.hid hst
      have HO := Lib.hid ho.out
      have HB := Lib.hid hb.out
      have hws := hb.out.size
      clear hst ho hb hf O0 B0
      have htri : (Op.bytesLess x.toList b.toList = true ∧ (x.toList == b.toList) = false ∧ Hid (ltS b x = false) ∧ Hid (decide (x ≠ b) = true)) ∨ (Op.bytesLess x.toList b.toList = false ∧ (x.toList == b.toList) = true ∧ Hid (ltS b x = false) ∧ Hid (decide (x ≠ b) = false)) ∨ (Op.bytesLess x.toList b.toList = false ∧ (x.toList == b.toList) = false ∧ Hid (ltS b x = true) ∧ Hid (decide (x ≠ b) = true)) := by
        rcases ltS_tri x b with e | e | e
        · exact .inl ⟨e, seq_false (ltS_ne e), Lib.hid (ltS_asym e), Lib.hid (by simp [ltS_ne e])⟩
        · exact .inr (.inl ⟨by subst e; exact ltS_irr x, seq_true e, Lib.hid (by subst e; exact ltS_irr x), Lib.hid (by simp [e])⟩)
        · exact .inr (.inr ⟨ltS_asym e, seq_false (Ne.symm (ltS_ne e)), Lib.hid e, Lib.hid (by simp [Ne.symm (ltS_ne e)])⟩)
      cases d <;> rcases htri with ⟨p1, q1, HE, E1⟩ | ⟨p1, q1, HE, E1⟩ | ⟨p1, q1, HE, E1⟩
      all_goals
        go_wp2_with (first
          | (at_builtin; refine wpList_append_oneS rfl _ _ rfl w.heap.size _ _ rfl HO.out b rfl (by omega) hws ?_; intro v2 w2 ho2 hb2 hk2; replace HB := Lib.hid (HB.out.trans hb2); replace hws := Nat.le_trans hws hb2.size; replace HO := Lib.hid ho2; clear hb2 hk2 ho2)
          | (at_builtin; refine wpList_append_oneS rfl _ _ rfl w.heap.size _ _ rfl HO.out x rfl (by first | omega | (simp; omega)) hws ?_; intro v3 w3 ho3 hb3 hk3; replace HB := Lib.hid (HB.out.trans hb3); replace HO := Lib.hid ho3; clear hb3 hk3 ho3))
        refine ⟨⟨k + 1, _, _, _, by omega, by simp, rfl, rfl, Lib.hid ?_, HO, HB⟩, by simp [intOf]; omega⟩
        rw [HST.out]
        simp only [setS, HE.out, E1.out]; simp
    · obtain rfl : k = l.length := by omega
      have hol := setF_len b l ([], !add)
      have hf2 := hf.out
      rw [List.take_length] at hf2
      rw [hf2] at hol
      simp only [List.length_nil] at hol
      have HF := Lib.hid hf2
      have HO := Lib.hid ho.out
      have HB := Lib.hid hb.out
      have hws := hb.out.size
      clear hf2 hf ho hb O0 B0
      cases d
      · go_wp2_with (at_builtin; refine wpList_append_oneS rfl _ _ rfl w.heap.size _ _ rfl HO.out b rfl (by omega) hws ?_; intro v3 w3 ho3 hb3 hk3; replace HB := Lib.hid (HB.out.trans hb3); replace HO := Lib.hid ho3; clear hb3 hk3 ho3)
        go_ret
        refine ⟨_, rfl, ?_, HB.out⟩
        have := HO.out
        rwa [show setToL l b add = out ++ [b] from by simp [setToL, HF.out]]
      · go_wp2_with (fail)
        go_ret
        refine ⟨_, rfl, ?_, HB.out⟩
        have := HO.out
        rwa [show setToL l b add = out from by simp [setToL, HF.out]]
end Go.Proofs.Ythipnbiilobjeaa

namespace Go.Proofs.Ythipnbiilobjeaa
open Go.RowKit Go.Shelf

theorem step_append_oneB {ops : Array Oper} {o : Oper} {a : Act} {K : Act → World → Prop} {Q : Exit → Act → World → Prop} {E : Prop} {W : World} (hgd : o.guard = Option.none) (s x : Operand)
    (ho : o.op = .call { callee := .builtin .append, args := #[s, x], argTypes := #[43, 43] }) (base : Nat) (v : Value) (l : List Bal) (hs : a.eval s = v) (hown : OwnE encB 92 W base v l)
    (b : Bal) (hx : a.eval x = .slice (some ⟨W.heap.size, 0, none⟩) 1 1) (hb : l.length ≤ 1000000) (hbase : base ≤ W.heap.size)
    (h : ∀ v' w', OwnE encB 92 w' base v' (l ++ [b]) → Below base W w' → K (a.put o.dst v') w') :
    if Region.wanted o (yielded ops a.tmps) = true then Oper.wp Try.prog o a (W.alloc (balO b)) K Q else E := by
  rw [if_pos (by simp [Region.wanted, hgd])]
  obtain ⟨i0, hi, hz0, hz1, hz2⟩ := info_parts info_bal
  have hown2 : OwnE encB 92 (W.alloc (balO b)) base v l := OwnE.below encB hown (belowA W _) (Nat.le_refl _)
  have hsrc : RowE encB (W.alloc (balO b)) (.slice (some ⟨W.heap.size, 0, none⟩) 1 1) [b] := OwnE.row encB (OwnE.lit encB (Nat.le_refl _) b _ rfl)
  rcases hsrc with ⟨hh, _⟩ | ⟨ad, cap, hh, h1, h2, hc⟩
  · cases hh
  · injection hh with e1 e2 e3
    injection e1 with e1
    subst e1 e3
    refine wp_append_own _ s x 43 ho base 92 i0 _ 3 40 Try.underlying43 hi hz0 hz1 hz2 rfl (by decide) v l.length (flat encB l) hs hown2 ⟨W.heap.size, 0, none⟩ 1 1 (flat encB [b]) hx (flat_length encB [b]) hc (flat_one encB [b]) (by unfold maxLen; omega) (by omega) (by simp; omega) ?_
    intro v' w' hown' hg hn
    refine h v' w' ?_ (below_grown hown2 hg (by simp; omega) _ ((Below.refl base W).alloc hbase _))
    unfold OwnE
    rw [List.length_append, flat_append]
    exact hown'

theorem CastSt.ans2 {sv vv : Value} {S : List ByteArray} {V : List Bal} {b : Bal} {w W : World} (h : CastSt sv S vv V b w W) {s' v' : Value} {S' : List ByteArray} {V' : List Bal} (h1 : OldNew encS 9 (w.heap.size + 3) w W s' S') (h2 : OldNew encB 92 (w.heap.size + 3) w W v' V') : RowAt ((W.setCell ⟨w.heap.size + 2, 0, none⟩ s').setCell ⟨w.heap.size + 2, 1, none⟩ v') (w.heap.size + 2) #[s', v'] 45 ∧
    RS ((W.setCell ⟨w.heap.size + 2, 0, none⟩ s').setCell ⟨w.heap.size + 2, 1, none⟩ v') s' S' ∧ RB ((W.setCell ⟨w.heap.size + 2, 0, none⟩ s').setCell ⟨w.heap.size + 2, 1, none⟩ v') v' V' ∧
    Below w.heap.size w ((W.setCell ⟨w.heap.size + 2, 0, none⟩ s').setCell ⟨w.heap.size + 2, 1, none⟩ v') := by
  have hb : Below w.heap.size w ((W.setCell ⟨w.heap.size + 2, 0, none⟩ s').setCell ⟨w.heap.size + 2, 1, none⟩ v') := (h.2.2.2.2.2.setCell (by simp) _).setCell (by simp) _
  exact ⟨(h.2.2.1.set 0 s' rfl).set 1 v' rfl, OldNew.row ((h1.other _ _ (by simp)).other _ _ (by simp)) hb, OldNew.row ((h2.other _ _ (by simp)).other _ _ (by simp)) hb, hb⟩

/-- What is left, where a vote has won. -/
def leftL (V1 : List Bal) (b : Bal) : List Bal := V1.filter fun x => !goneL b x
def stayL (S2 : List ByteArray) (l : List Bal) (b : Bal) : List Bal := l.filter fun x => b.2.2 || !wonL S2 l x
def RCastRel (S : List ByteArray) (V : List Bal) (b : Bal) (S' : List ByteArray) (V' : List Bal) (c : Int) : Prop :=
  (¬ RightOk S V ∧ S' = [] ∧ V' = [] ∧ c = 1) ∨ (RightOk S V ∧ Refused S b ∧ S' = [] ∧ V' = [] ∧ c = 44) ∨
  (RightOk S V ∧ ¬ Refused S b ∧ c = 0 ∧ ((wonL S (putL V b) b = false ∧ S' = S ∧ V' = putL V b) ∨ (wonL S (putL V b) b = true ∧ S' = setToL S b.2.1 b.2.2 ∧ V' = stayL S' (leftL (putL V b) b) b)))
def RCastPost (S : List ByteArray) (V : List Bal) (b : Bal) (w : World) (e : Ending) (w' : World) : Prop :=
  ∃ sv vv S' V' c, e = .returned (.tuple #[.agg #[sv, vv], .int .i64 c]) ∧ RCastRel S V b S' V' c ∧ RS w' sv S' ∧ RB w' vv V' ∧ Below w.heap.size w w'

theorem putL_len (V : List Bal) (b : Bal) : (putL V b).length ≤ 2 * V.length + 1 := by
  have := putF_len b V ([], false)
  unfold putL
  simp only [List.length_append, List.length_nil] at *
  split <;> simp <;> omega
theorem setToL_len (S : List ByteArray) (a : ByteArray) (add : Bool) : (setToL S a add).length ≤ 2 * S.length + 1 := by
  have := setF_len a S ([], !add)
  unfold setToL
  simp only [List.length_append, List.length_nil] at *
  split <;> simp <;> omega
theorem filter_take_step {α : Type} (p : α → Bool) (V : List α) {k : Nat} (h : k < V.length) : (V.take (k + 1)).filter p = (V.take k).filter p ++ if p V[k] then [V[k]] else [] := by
  rw [List.take_add_one, List.getElem?_eq_getElem h, List.filter_append]
  cases hp : p V[k] <;> simp [hp]
end Go.Proofs.Ythipnbiilobjeaa

/- The reference's forms: where a kind ends, the kinds of a flat form; how many fields there are. The reference's Many: how many fields there are, of few. The reference: does a field fit a kind of one sign? The reference: does a field fit a kind of a star and one sign? The reference: do fields fit a flat form? The reference: do fields fit a form (a flat one)? Regions that draw their order, hold reads and ONE call whose answer hangs on the world, and then its slice, ahead of a tail in one order. The reference: a field as an item, by a kind of one sign. The reference: a field as an item, by a kind of a star and one sign. The reference's Write, by a flat form. -/
import Derived.Test.YtefmlbckbhlgdaaRa8
import Derived.Test.YtefmlbckbhlgdaaRa11
import Derived.Test.YtefmlbckbhlgdaaRa12
namespace Go.Proofs.Ytefmlbckbhlgdaa
open Go.RowKit Go.Shelf
set_option maxRecDepth 100000
theorem leafK_cases {c : UInt8} (h : leafK c = true) : c = 110 ∨ c = 104 ∨ c = 97 ∨ c = 115 ∨ c = 98 := by
  unfold leafK at h
  simp at h
  rcases h with (((h | h) | h) | h) | h <;> simp [h]
theorem at_byte {s : ByteArray} {i : Nat} {c : UInt8} (h : (bl s)[i]? = some c) : ∃ hi : i < s.size, s[i] = c := by
  have hi : i < s.size := by have := (List.getElem?_eq_some_iff.1 h).1; rwa [bl_length] at this
  refine ⟨hi, ?_⟩
  rw [sget hi] at h
  exact Option.some.inj h

set_option maxHeartbeats 4000000 in
theorem end_leaf (s : ByteArray) (i o : Nat) (c : UInt8) (h : (bl s)[i]? = some c) (hc : leafK c = true) (hs : s.size ≤ 1000) (oi : Int) (hoi : oi = o) (w : World) : Calls Try.prog 104 #[.string s, .int .i64 i, .int .i64 oi] w fun e w' => e = .returned (.int .i64 ((i + 1 : Nat) : Int)) ∧ w' = w := by
  subst hoi
  obtain ⟨hi, hg⟩ := at_byte h
  have hlt : ¬ (i : Int) ≥ s.size := by omega
  clear h
  rcases leafK_cases hc with rfl | rfl | rfl | rfl | rfl
  all_goals
    replace hg : (s[i]'hi).toNat = _ := congrArg UInt8.toNat hg
    simp only [UInt8.reduceToNat] at hg
    go_enter Try.func104, Try.ntmps104
    go_wp2
    go_ret
    exact ⟨by simp, rfl⟩

set_option maxHeartbeats 4000000 in
theorem end_star (s : ByteArray) (i : Nat) (c : UInt8) (h0 : (bl s)[i]? = some 42) (h : (bl s)[i + 1]? = some c) (hc : leafK c = true) (hs : s.size ≤ 1000) (w : World) : Calls Try.prog 104 #[.string s, .int .i64 i, .int .i64 0] w fun e w' => e = .returned (.int .i64 ((i + 2 : Nat) : Int)) ∧ w' = w := by
  have KE := Lib.hid (fun W => end_leaf s (i + 1) 1 c h hc hs 1 rfl W)
  obtain ⟨hi, hg⟩ := at_byte h0
  have hlt : ¬ (i : Int) ≥ s.size := by omega
  replace hg : (s[i]'hi).toNat = _ := congrArg UInt8.toNat hg
  simp only [UInt8.reduceToNat] at hg
  clear h0 h
  have e1 : ((i + 1 : Nat) : Int) = (i : Int) + 1 := by omega
  rw [e1] at KE
  go_enter Try.func104, Try.ntmps104
  go_wp2_with (go_at_call 104; refine (KE.out _).mono ?_; rintro e w' ⟨rfl, rfl⟩)
  go_ret
  exact ⟨by simp; omega, rfl⟩

/-- A kind of one level, as it stands in a form. -/
def tokOk (t : List UInt8) : Prop := ∃ c, leafK c = true ∧ (t = [c] ∨ t = [42, c])
def tokK : List UInt8 → Kd
  | [c] => .mk c []
  | [_, c] => .mk 42 [.mk c []]
  | _ => .mk 0 []
theorem tokOk.pos {t : List UInt8} (h : tokOk t) : 0 < t.length := by
  obtain ⟨c, _, rfl | rfl⟩ := h <;> exact Nat.succ_pos _
theorem tok_drop (toks : List (List UInt8)) (i : Nat) : toks.flatten.drop (toks.take i).flatten.length = (toks.drop i).flatten := by
  conv => lhs; rw [← List.take_append_drop i toks, List.flatten_append]
  rw [List.take_append_drop, List.drop_left]
theorem tok_le (toks : List (List UInt8)) (i : Nat) : (toks.take i).flatten.length ≤ toks.flatten.length := by
  conv => rhs; rw [← List.take_append_drop i toks, List.flatten_append, List.length_append]
  omega
theorem end_tok (s : ByteArray) (toks : List (List UInt8)) (h : bl s = toks.flatten) (i : Nat) (t : List UInt8) (ht : toks[i]? = some t) (hk : tokOk t) (hs : s.size ≤ 1000) (w : World) :
    Calls Try.prog 104 #[.string s, .int .i64 ((toks.take i).flatten.length : Nat), .int .i64 0] w fun e w' => e = .returned (.int .i64 (((toks.take (i + 1)).flatten.length : Nat) : Int)) ∧ w' = w := by
  have hn : (toks.take (i + 1)).flatten.length = (toks.take i).flatten.length + t.length := by rw [List.take_add_one, ht]; simp
  have hd : (bl s).drop (toks.take i).flatten.length = t ++ (toks.drop (i + 1)).flatten := by
    rw [h, tok_drop, List.drop_eq_getElem_cons (List.getElem?_eq_some_iff.1 ht).1, (List.getElem?_eq_some_iff.1 ht).2, List.flatten_cons]
  rw [hn]
  generalize (toks.take i).flatten.length = p at *
  have hg : ∀ k, (bl s)[p + k]? = (t ++ (toks.drop (i + 1)).flatten)[k]? := fun k => by rw [← hd, List.getElem?_drop]
  obtain ⟨c, hc, rfl | rfl⟩ := hk
  · exact end_leaf s p 0 c (by have := hg 0; simpa using this) hc hs 0 rfl w
  · exact end_star s p c (by have := hg 0; simpa using this) (by have := hg 1; simpa using this) hc hs w

theorem wpList_append_tk {ops : Array Oper} {rest : List Oper} {o : Oper} {a : Act} {Q : Exit → Act → World → Prop} {W : World} (hgd : o.guard = Option.none) (s x : Operand)
    (ho : o.op = .call { callee := .builtin .append, args := #[s, x], argTypes := #[23, 23] }) (base : Nat) (v : Value) (l : List ByteArray) (hs : a.eval s = v) (hown : OwnE encS 9 W base v l)
    (b : ByteArray) (hx : a.eval x = .slice (some ⟨W.heap.size, 0, none⟩) 1 1) (hb : l.length ≤ 1000000) (hbase : base ≤ W.heap.size)
    (h : ∀ v' w', OwnE encS 9 w' base v' (l ++ [b]) → Below base W w' → (∀ k cs T, RowAt W k cs T → v.ownBlock ≠ some k → RowAt w' k cs T) → wpList Try.prog ops Q rest (a.put o.dst v') w') : wpList Try.prog ops Q (o :: rest) a (W.alloc (.cells #[.string b] 9)) := by
  obtain ⟨i0, hi, hz0, hz1, hz2⟩ := info_parts info_str
  have hown2 : OwnE encS 9 (W.alloc (.cells #[.string b] 9)) base v l := OwnE.below encS hown (bel1 W _) (Nat.le_refl _)
  have hsrc : RowE encS (W.alloc (.cells #[.string b] 9)) (.slice (some ⟨W.heap.size, 0, none⟩) 1 1) [b] := OwnE.row encS (OwnE.lit encS (Nat.le_refl _) b _ rfl)
  rcases hsrc with ⟨hh, _⟩ | ⟨ad, cap, hh, h1, h2, hc⟩
  · cases hh
  · injection hh with e1 e2 e3
    injection e1 with e1
    subst e1 e3
    refine wpList_append_own _ hgd s x 23 ho base 9 i0 _ 1 16 Try.underlying23 hi hz0 hz1 hz2 rfl (by decide) v l.length (flat encS l) hs hown2 ⟨W.heap.size, 0, none⟩ 1 1 (flat encS [b]) hx (flat_length encS [b]) hc (flat_one encS [b]) (by unfold maxLen; omega) (by omega) (by simp; omega) ?_
    intro v' w' hown' hg hn
    refine h v' w' ?_ (below_grown hown2 hg (by simp; omega) _ ((Below.refl base W).alloc hbase _)) ?_
    · unfold OwnE
      rw [List.length_append, flat_append]
      exact hown'
    · intro k cs T hk hne
      exact (hk.alloc _).grown hg (fun e => hne e.symm)


set_option maxHeartbeats 4000000 in
theorem rkinds_any (s : ByteArray) (toks : List (List UInt8)) (h : bl s = toks.flatten) (hk : ∀ t ∈ toks, tokOk t) (hs : s.size ≤ 40) (w : World) :
    Calls Try.prog 59 #[.string s] w fun e w' => ∃ v, e = .returned (.tuple #[v, .bool true]) ∧ OwnE encS 9 w' w.heap.size v (toks.map mkS) ∧ Below w.heap.size w w' := by
  have hlen : s.size = toks.flatten.length := by rw [← h, bl_length]
  have KE := Lib.hid (fun i t (ht : toks[i]? = some t) W => end_tok s toks h i t ht (hk t (List.mem_of_getElem? ht)) (by omega) W)
  have O0 := Lib.hid (OwnE.start encS (T := 9) (w := w) (Nat.le_refl w.heap.size))
  have HB0 := Lib.hid (bel1 w (.cells #[] 9))
  have HPOS := Lib.hid (fun i t (ht : toks[i]? = some t) => (hk t (List.mem_of_getElem? ht)).pos)
  have HT := Lib.hid (show ∀ i t, toks[i]? = some t → s.extract (toks.take i).flatten.length (toks.take (i + 1)).flatten.length = mkS t ∧ (toks.take (i + 1)).flatten.length = (toks.take i).flatten.length + t.length ∧ (toks.take (i + 1)).flatten.length ≤ s.size from fun i t ht => by
    have hn : (toks.take (i + 1)).flatten.length = (toks.take i).flatten.length + t.length := by rw [List.take_add_one, ht]; simp
    have hd : (bl s).drop (toks.take i).flatten.length = t ++ (toks.drop (i + 1)).flatten := by
      rw [h, tok_drop, List.drop_eq_getElem_cons (List.getElem?_eq_some_iff.1 ht).1, (List.getElem?_eq_some_iff.1 ht).2, List.flatten_cons]
    refine ⟨bl_inj ?_, hn, ?_⟩
    · rw [bl_extract, bl_mk, List.drop_take, hd, hn, Nat.add_sub_cancel_left, List.take_left]
    · rw [hlen]
      exact tok_le _ _)
  have HF : Hid (toks.take toks.length = toks) := Lib.hid (by simp)
  have HZ : Hid ((toks.take 0).flatten.length = 0) := Lib.hid rfl
  have HTL := Lib.hid (show toks.flatten.length = s.size from hlen.symm)
  clear h hk hlen
  go_enter Try.func59, Try.ntmps59
  go_upto_region 5 with (fail)
  generalize w.alloc (.cells #[] 9) = W at *
  go_loopw [4, 5] (fun v c wr => ∃ i : Nat, i ≤ toks.length ∧ c = .int .i64 ((toks.take i).flatten.length : Nat) ∧ Hid (OwnE encS 9 wr w.heap.size v ((toks.take i).map mkS)) ∧ Hid (Below w.heap.size w wr)) (fun _ c _ => s.size - (intOf c).toNat)
  case atStart => exact ⟨0, Nat.zero_le _, by rw [HZ.out]; rfl, Lib.hid O0.out, HB0⟩
  case round =>
    clear O0 HB0
    obtain ⟨i, hi, rfl, ho, hb⟩ := hrel
    have O := Lib.hid ho.out
    have HB := Lib.hid hb.out
    clear ho hb
    by_cases hlt : i < toks.length
    · obtain ⟨t, ht⟩ : ∃ t, toks[i]? = some t := ⟨_, List.getElem?_eq_getElem hlt⟩
      obtain ⟨e1, e2, e3⟩ := HT.out i t ht
      have hp := HPOS.out i t ht
      have K1 := Lib.hid (KE.out i t ht)
      have HTK : Hid ((toks.take i).map mkS ++ [mkS t] = (toks.take (i + 1)).map mkS) := Lib.hid (by rw [List.take_add_one, ht]; simp)
      have HLI : Hid (((toks.take i).map mkS).length ≤ 1000) := Lib.hid (by
        have h1 : ∀ l : List (List UInt8), (∀ x ∈ l, 0 < x.length) → l.length ≤ l.flatten.length := by
          intro l
          induction l with
          | nil => intro _; exact Nat.le_refl _
          | cons a l ih => intro h; rw [List.flatten_cons, List.length_append, List.length_cons]; have := ih (fun x hx => h x (List.mem_cons_of_mem _ hx)); have := h a List.mem_cons_self; omega
        have := h1 (toks.take i) (fun x hx => by obtain ⟨j, hj⟩ := List.getElem?_of_mem (List.mem_of_mem_take hx); exact HPOS.out j x hj)
        rw [List.length_map]
        have h3 := tok_le toks i
        rw [HTL.out] at h3
        omega)
      have HP1 := Lib.hid (show ∀ x, x = (toks.take (i + 1)).flatten.length → (toks.take (i + 1)).flatten.length = x from fun x h => h.symm)
      generalize hq : (toks.take (i + 1)).flatten.length = q at *
      have HQ := Lib.hid hq
      generalize hpp : (toks.take i).flatten.length = p at *
      have hpq : (p : Int) < s.size := by omega
      have hq0 : ¬ (q : Int) < 0 := by omega
      have hqs : (q : Int) ≤ s.size := by omega
      have hpq2 : p ≤ q := by omega
      have HPQ := Lib.hid (show p < q by omega)
      clear hq hpp e2
      generalize mkS t = tk at *
      have hws := HB.out.size
      have e1 : s.extract ((p : Nat) : Int).toNat ((q : Nat) : Int).toNat = tk := e1
      have hpq3 : (p : Int) ≤ q := by omega
      go_wp2_with (first
        | (go_at_call 104; refine (K1.out _).mono ?_; rintro e w' ⟨rfl, rfl⟩)
        | (at_builtin; refine wpList_append_tk rfl _ _ rfl w.heap.size _ _ rfl O.out tk rfl (by have := HLI.out; omega) hws ?_; intro v2 w2 ho2 hb2 hk2; replace HB := Lib.hid (HB.out.trans hb2); replace O := Lib.hid ho2; clear hb2 hk2 ho2))
      rw [HTK.out] at O
      refine ⟨⟨i + 1, by omega, by rw [HQ.out], O, HB⟩, ?_⟩
      have := HPQ.out
      simp only [intOf, Int.toNat_natCast]
      omega
    · obtain rfl : i = toks.length := by omega
      rw [show (toks.take toks.length).flatten.length = s.size by rw [HF.out, HTL.out]]
      rw [HF.out] at O
      go_wp2_with fail
      refine bodyPost_ret (v := .tuple #[u4, .bool true]) (by simp [results, Try.results59, go_sem]) rfl ?_
      exact ⟨_, rfl, O.out, HB.out⟩
end Go.Proofs.Ytefmlbckbhlgdaa
namespace Go.Proofs.Ytefmlbckbhlgdaa
open Go.RowKit
/-- What is counted, of few: 'i' are gone through, those behind them stand with all in them, 'rest' are to come. -/
def MInv (N : Nat) (ts : List Fd) (i rest : Nat) : Prop := N ≤ 1000 → i ≤ ts.length ∧ i + counts (ts.drop i) + rest = N
theorem counts_dropF {L : List Fd} {j : Nat} {f : Fd} (h : L[j]? = some f) : counts (L.drop j) = f.count + counts (L.drop (j + 1)) := by
  rw [List.drop_eq_getElem_cons (List.getElem?_eq_some_iff.1 h).1, (List.getElem?_eq_some_iff.1 h).2, counts]
theorem MInv.add {N : Nat} {ts : List Fd} {i j : Nat} {L : List Fd} {f : Fd} (h : MInv N ts i (counts (L.drop j))) (hf : L[j]? = some f) : MInv N (ts ++ [f]) i (counts (L.drop (j + 1))) := fun hN => by
  obtain ⟨h1, h2⟩ := h hN
  rw [counts_dropF hf] at h2
  refine ⟨by rw [List.length_append]; omega, ?_⟩
  rw [List.drop_append_of_le_length h1, counts_append]
  simp only [counts]
  omega
theorem MInv.stop {N : Nat} {ts : List Fd} {i j : Nat} {L : List Fd} (h : MInv N ts i (counts (L.drop j))) (r : Nat) (hl : 1000 < ts.length) : MInv N ts i r := fun hN => by
  obtain ⟨h1, h2⟩ := h hN
  have := counts_len (ts.drop i)
  rw [List.length_drop] at this
  omega
theorem MInv.done {N : Nat} {ts : List Fd} {i : Nat} {L : List Fd} (h : MInv N ts i (counts (L.drop L.length))) : MInv N ts i 0 := by
  rw [List.drop_length] at h
  exact h
theorem MInv.next {N : Nat} {ts : List Fd} {i : Nat} {t : Fd} (h : MInv N ts i 0) (ht : ts[i]? = some t) : MInv N ts (i + 1) (counts (t.kids.drop 0)) := fun hN => by
  obtain ⟨h1, h2⟩ := h hN
  have h3 := (List.getElem?_eq_some_iff.1 ht).1
  rw [counts_dropF ht, ← count_pos] at h2
  refine ⟨by omega, ?_⟩
  rw [List.drop_zero]
  omega
theorem MInv.over {N : Nat} {ts : List Fd} {i : Nat} (h : MInv N ts i 0) (hN : N ≤ 1000) : ts.length ≤ 1000 := by
  obtain ⟨h1, h2⟩ := h hN
  have := counts_len (ts.drop i)
  rw [List.length_drop] at this
  omega
theorem MInv.last {N : Nat} {ts : List Fd} {i : Nat} (h : MInv N ts i 0) (hN : N ≤ 1000) : i ≤ ts.length ∧ (ts.length ≤ i → ts.length = N) := by
  obtain ⟨h1, h2⟩ := h hN
  refine ⟨h1, fun hle => ?_⟩
  rw [List.drop_of_length_le hle] at h2
  simp only [counts] at h2
  omega

set_option maxRecDepth 100000 in
set_option maxHeartbeats 2000000 in
theorem many_count (v : Value) (l : List Fd) (w : World) (h : RowT encFd (fun _ => True) w v l) : Calls Try.prog 151 #[v, .int .i64 1000] w fun e w' => ∃ n : Int, e = .returned (.int .i64 n) ∧ (counts l ≤ 1000 → n = counts l) ∧ Below w.heap.size w w' := by
  obtain ⟨p, cap, rfl, s1, s2⟩ := RowT.shape h
  have HL := Lib.hid h
  have O0 := Lib.hid (OwnE.start encFd.enc (T := 64) (w := w) (Nat.le_refl w.heap.size))
  have HB0 := Lib.hid (bel1 w (.cells #[] 64))
  have HQ0 : Hid (QueueF w (w.alloc (.cells #[] 64)) (.slice (some ⟨w.heap.size, 0, none⟩) 0 0) [] []) := Lib.hid ⟨rfl, O0.out, fun i t x h => by simp at h⟩
  have HM0 : Hid (MInv (counts l) [] 0 (counts (l.drop 0))) := Lib.hid fun _ => ⟨Nat.le_refl _, by simp [counts]⟩
  clear h O0
  unfold maxLen at s2
  go_enter Try.func151, Try.ntmps151
  go_upto_region 3 with (fail)
  generalize w.alloc (.cells #[] 64) = W at *
  go_loopw [5, 14] (fun s5 s14 wr => ∃ (j : Nat) (xs : List (EV (Nat × List UInt8))) (ts : List Fd) (p : Option Addr) (c : Nat), j ≤ l.length ∧ xs.length ≤ 1001 ∧ Hid (MInv (counts l) ts 0 (counts (l.drop j))) ∧ s14 = .int .i64 j ∧ s5 = .slice p xs.length c ∧ Hid (QueueF w wr (.slice p xs.length c) xs ts) ∧ Hid (Below w.heap.size w wr)) (fun _ s _ => l.length - (intOf s).toNat)
  case atStart => exact ⟨0, [], [], _, _, Nat.zero_le _, Nat.zero_le _, HM0, rfl, rfl, HQ0, HB0⟩
  case round =>
    clear HQ0 HB0 HM0
    obtain ⟨j, xs, ts, p1, c1, hj, hxl, hm, rfl, rfl, hq, hb⟩ := hrel
    have HM := Lib.hid hm.out
    have HQ := Lib.hid hq.out
    have HB := Lib.hid hb.out
    clear hq hb hm
    obtain ⟨-, k1, k2, -⟩ := RowE.sane (OwnE.row _ HQ.out.2.1)
    unfold maxLen at k2
    by_cases hlt : j < l.length
    · skip
      obtain ⟨f, hf⟩ : ∃ f, l[j]? = some f := ⟨_, List.getElem?_eq_getElem hlt⟩
      obtain ⟨adf, sf, rfl, hfc, hfk⟩ := RowT.at2 (HL.out.below HB.out (Nat.le_refl _)) hf
      obtain ⟨_, sf', e', hfc', hfk'⟩ := RowT.at2 HL.out hf
      obtain ⟨p3, n3, c3⟩ := sf
      obtain ⟨⟨fn, fb⟩, fk⟩ := f
      have HMa := Lib.hid (MInv.add HM.out hf)
      have HMs := Lib.hid (MInv.stop HM.out)
      have f0 := hfc 0 _ rfl
      have f1' := hfc 1 _ rfl
      have f2' := hfc 2 _ rfl
      replace f0 : wr.cell? (adf.add (j * 3)) = some (.int .u64 (fn : Int)) := f0
      replace f1' : wr.cell? ⟨(adf.add (j * 3)).block, (adf.add (j * 3)).off + 1, none⟩ = some (.string (mkS fb)) := f1'
      replace f2' : wr.cell? ⟨(adf.add (j * 3)).block, (adf.add (j * 3)).off + 2, none⟩ = some (.slice p3 n3 c3) := f2'
      have hs3 : sf' = (p3, n3, c3) := by
        injection e' with e'
        subst e'
        have hz : w.cell? ((adf.add (j * 3)).add 2) = some (slV sf') := hfc' 2 _ rfl
        have hy : wr.cell? ((adf.add (j * 3)).add 2) = some (slV sf') := by rw [HB.out.cell (block_lt_of_cell hz)]; exact hz
        have hx : wr.cell? ((adf.add (j * 3)).add 2) = some (.slice p3 n3 c3) := f2'
        rw [hy] at hx
        obtain ⟨a1, a2, a3⟩ := sf'
        simpa [slV] using hx
      subst hs3
      have HT := Lib.hid (RowT.node (A := fun _ => True) (fn, fb) hfk')
      clear hfc hfc' hfk hfk' hf e'
      go_upto_region 5 with (fail)
      have B1 := bel1 wr (.cells #[.int .u64 (fn : Int), .string (mkS fb), .slice p3 n3 c3] 64)
      have R8 := Lib.hid (RowAt.new wr #[.int .u64 (fn : Int), .string (mkS fb), .slice p3 n3 c3] 64)
      have HQ1 := Lib.hid (OwnE.below _ HQ.out.2.1 B1 (Nat.le_refl _))
      have HB1 := Lib.hid (HB.out.trans (B1.mono HB.out.size))
      clear f0 f1' f2' B1
      generalize wr.alloc (.cells #[.int .u64 (fn : Int), .string (mkS fb), .slice p3 n3 c3] 64) = wa at *
      generalize wr.heap.size = k8 at *
      obtain ⟨y0, y1, y2, yf0, yf1, yf2⟩ := R8.out.c3
      by_cases hle : xs.length ≤ 1000
      · have q1 : (xs.length : Int) ≤ 1000 := by omega
        have O8 := Lib.hid (OwnE.below _ HQ1.out (bel1 wa (.cells #[.int .u64 (fn : Int), .string (mkS fb), .slice p3 n3 c3] 64)) (Nat.le_refl _))
        have HB8 := Lib.hid (HB1.out.trans ((bel1 wa (.cells #[.int .u64 (fn : Int), .string (mkS fb), .slice p3 n3 c3] 64)).mono HB1.out.size))
        have R9 := Lib.hid (RowAt.new wa #[.int .u64 (fn : Int), .string (mkS fb), .slice p3 n3 c3] 64)
        have HL9 := Lib.hid (RowE.lit encFd.enc R9.out ((fn, fb), p3, n3, c3) rfl)
        have HSZ := Lib.hid HB8.out.size
        clear HB HQ1 HB1
        go_upto_region 7 with (at_builtin; refine wpList_append_rowE encFd.enc Try.underlying60 info_field rfl rfl _ _ rfl w.heap.size _ xs rfl O8.out _ [((fn, fb), p3, n3, c3)] rfl HL9.out (by unfold maxLen; simp; omega) (by simp; omega) HSZ.out ?_)
        intro v' w' ho hbb _ _
        have HQ2 := Lib.hid (QueueF.grow HQ.out ho HT.out)
        have HB2 := Lib.hid (hbb _ HB8.out)
        have hl2 : (xs ++ [((fn, fb), p3, n3, c3)]).length = xs.length + 1 := by simp
        obtain ⟨p5, c5, rfl, _, _⟩ := RowE.shape _ (OwnE.row _ ho)
        have hl3 : (xs ++ [((fn, fb), p3, n3, c3)]).length ≤ 1001 := by omega
        clear ho hbb HQ HT HL9 R9 hl2 HMs HM
        generalize xs ++ [((fn, fb), p3, n3, c3)] = xs2 at *
        generalize ts ++ [Tr.mk (fn, fb) fk] = ts2 at *
        go_wp2
        exact ⟨⟨j + 1, xs2, ts2, p5, c5, by omega, hl3, HMa, by simp, rfl, HQ2, HB2⟩, by simp [intOf]; omega⟩
      · have q1 : ¬ (xs.length : Int) ≤ 1000 := by omega
        have HQ2 : Hid (QueueF w wa (.slice p1 xs.length c1) xs ts) := Lib.hid ⟨HQ.out.1, HQ1.out, HQ.out.2.2⟩
        have HM2 := Lib.hid (HMs.out (counts (l.drop (j + 1))) (by have := HQ.out.1; omega))
        clear HQ HQ1 HMa HMs HM
        go_wp2
        exact ⟨⟨j + 1, xs, ts, p1, c1, by omega, hxl, HM2, by simp, rfl, HQ2, HB1⟩, by simp [intOf]; omega⟩
    · obtain rfl : j = l.length := by omega
      have HM0 := Lib.hid (MInv.done HM.out)
      clear hj hlt HM
      go_upto_region 9 with (fail)
      go_loopw [5, 8] (fun s5 s8 wr => ∃ (i : Nat) (xs : List (EV (Nat × List UInt8))) (ts : List Fd) (p : Option Addr) (c : Nat), i ≤ 1002 ∧ xs.length ≤ 1001 ∧ Hid (MInv (counts l) ts i 0) ∧ s8 = .int .i64 i ∧ s5 = .slice p xs.length c ∧ Hid (QueueF w wr (.slice p xs.length c) xs ts) ∧ Hid (Below w.heap.size w wr)) (fun _ s _ => 1003 - (intOf s).toNat)
      case atStart => exact ⟨0, xs, ts, p1, c1, by omega, hxl, HM0, rfl, rfl, HQ, HB⟩
      case round =>
        clear HQ HB hxl HM0
        obtain ⟨i, xs, ts, p1, c1, hi, hxl, hm, rfl, rfl, hq, hb⟩ := hrel
        have HM := Lib.hid hm.out
        have HQ := Lib.hid hq.out
        have HB := Lib.hid hb.out
        clear hq hb hm
        obtain ⟨-, k1, k2, -⟩ := RowE.sane (OwnE.row _ HQ.out.2.1)
        unfold maxLen at k2
        by_cases hlt : i < xs.length
        · by_cases hle : xs.length ≤ 1000
          · have q1 : (xs.length : Int) ≤ 1000 := by omega
            have hql := HQ.out.1
            obtain ⟨x, hg⟩ : ∃ x, xs[i]? = some x := ⟨_, List.getElem?_eq_getElem hlt⟩
            obtain ⟨t, hgt⟩ : ∃ t, ts[i]? = some t := ⟨_, List.getElem?_eq_getElem (by omega)⟩
            obtain ⟨g, rfl, g1, g2, g3, g4, -⟩ := OwnE.at HQ.out.2.1 hg
            have hrow := (HQ.out.2.2 i _ _ hgt hg).row
            obtain ⟨⟨xn, xb⟩, pk, nk, ck⟩ := x
            have HM1 := Lib.hid (MInv.next HM.out hgt)
            clear HM
            have hlk := hrow.sane
            obtain ⟨lk1, lk2, lk3⟩ := hlk
            unfold maxLen at lk3
            have c0 : wr.cell? ⟨g, i * 3 + 2, none⟩ = some (.slice pk nk ck) := g3 2 _ rfl
            generalize t.kids = L at *
            subst lk1
            have HK : Hid (RowT encFd (fun _ => True) w (.slice pk L.length ck) L) := Lib.hid hrow
            have HXI := Lib.hid hlt
            clear hrow g1 g2 g3 g4 hg hgt hql
            go_upto_region 12 with (fail)
            clear c0 q1 k1 k2 hle
            go_loopw [5, 45] (fun s5 s45 wr => ∃ (j : Nat) (xs : List (EV (Nat × List UInt8))) (ts : List Fd) (p : Option Addr) (c : Nat), j ≤ L.length ∧ xs.length ≤ 1001 ∧ Hid (MInv (counts l) ts (i + 1) (counts (L.drop j))) ∧ s45 = .int .i64 j ∧ s5 = .slice p xs.length c ∧ Hid (i < xs.length) ∧ Hid (QueueF w wr (.slice p xs.length c) xs ts) ∧ Hid (Below w.heap.size w wr)) (fun _ s _ => L.length - (intOf s).toNat)
            case atStart => exact ⟨0, xs, ts, _, _, Nat.zero_le _, hxl, HM1, rfl, rfl, HXI, HQ, HB⟩
            case round =>
              clear HQ HB HXI hlt hxl HM1
              obtain ⟨j, xs, ts, p1, c1, hj, hxl, hm, rfl, rfl, hxi, hq, hb⟩ := hrel
              have HM := Lib.hid hm.out
              have HQ := Lib.hid hq.out
              have HB := Lib.hid hb.out
              have HXI := Lib.hid hxi.out
              clear hq hb hxi hm
              obtain ⟨-, k1, k2, -⟩ := RowE.sane (OwnE.row _ HQ.out.2.1)
              unfold maxLen at k2
              by_cases hlt : j < L.length
              · skip
                obtain ⟨f, hf⟩ : ∃ f, L[j]? = some f := ⟨_, List.getElem?_eq_getElem hlt⟩
                obtain ⟨adf, sf, rfl, hfc, hfk⟩ := RowT.at2 (HK.out.below HB.out (Nat.le_refl _)) hf
                obtain ⟨_, sf', e', hfc', hfk'⟩ := RowT.at2 HK.out hf
                obtain ⟨p3, n3, c3⟩ := sf
                obtain ⟨⟨fn, fb⟩, fk⟩ := f
                have HMa := Lib.hid (MInv.add HM.out hf)
                have HMs := Lib.hid (MInv.stop HM.out)
                have f0 := hfc 0 _ rfl
                have f1' := hfc 1 _ rfl
                have f2' := hfc 2 _ rfl
                replace f0 : wr.cell? (adf.add (j * 3)) = some (.int .u64 (fn : Int)) := f0
                replace f1' : wr.cell? ⟨(adf.add (j * 3)).block, (adf.add (j * 3)).off + 1, none⟩ = some (.string (mkS fb)) := f1'
                replace f2' : wr.cell? ⟨(adf.add (j * 3)).block, (adf.add (j * 3)).off + 2, none⟩ = some (.slice p3 n3 c3) := f2'
                have hs3 : sf' = (p3, n3, c3) := by
                  injection e' with e'
                  subst e'
                  have hz : w.cell? ((adf.add (j * 3)).add 2) = some (slV sf') := hfc' 2 _ rfl
                  have hy : wr.cell? ((adf.add (j * 3)).add 2) = some (slV sf') := by rw [HB.out.cell (block_lt_of_cell hz)]; exact hz
                  have hx : wr.cell? ((adf.add (j * 3)).add 2) = some (.slice p3 n3 c3) := f2'
                  rw [hy] at hx
                  obtain ⟨a1, a2, a3⟩ := sf'
                  simpa [slV] using hx
                subst hs3
                have HT := Lib.hid (RowT.node (A := fun _ => True) (fn, fb) hfk')
                clear hfc hfc' hfk hfk' hf e'
                go_upto_region 14 with (fail)
                have B1 := bel1 wr (.cells #[.int .u64 (fn : Int), .string (mkS fb), .slice p3 n3 c3] 64)
                have R8 := Lib.hid (RowAt.new wr #[.int .u64 (fn : Int), .string (mkS fb), .slice p3 n3 c3] 64)
                have HQ1 := Lib.hid (OwnE.below _ HQ.out.2.1 B1 (Nat.le_refl _))
                have HB1 := Lib.hid (HB.out.trans (B1.mono HB.out.size))
                clear f0 f1' f2' B1
                generalize wr.alloc (.cells #[.int .u64 (fn : Int), .string (mkS fb), .slice p3 n3 c3] 64) = wa at *
                generalize wr.heap.size = k8 at *
                obtain ⟨y0, y1, y2, yf0, yf1, yf2⟩ := R8.out.c3
                by_cases hle : xs.length ≤ 1000
                · have q1 : (xs.length : Int) ≤ 1000 := by omega
                  have O8 := Lib.hid (OwnE.below _ HQ1.out (bel1 wa (.cells #[.int .u64 (fn : Int), .string (mkS fb), .slice p3 n3 c3] 64)) (Nat.le_refl _))
                  have HB8 := Lib.hid (HB1.out.trans ((bel1 wa (.cells #[.int .u64 (fn : Int), .string (mkS fb), .slice p3 n3 c3] 64)).mono HB1.out.size))
                  have R9 := Lib.hid (RowAt.new wa #[.int .u64 (fn : Int), .string (mkS fb), .slice p3 n3 c3] 64)
                  have HL9 := Lib.hid (RowE.lit encFd.enc R9.out ((fn, fb), p3, n3, c3) rfl)
                  have HSZ := Lib.hid HB8.out.size
                  clear HB HQ1 HB1
                  go_upto_region 16 with (at_builtin; refine wpList_append_rowE encFd.enc Try.underlying60 info_field rfl rfl _ _ rfl w.heap.size _ xs rfl O8.out _ [((fn, fb), p3, n3, c3)] rfl HL9.out (by unfold maxLen; simp; omega) (by simp; omega) HSZ.out ?_)
                  intro v' w' ho hbb _ _
                  have HQ2 := Lib.hid (QueueF.grow HQ.out ho HT.out)
                  have HB2 := Lib.hid (hbb _ HB8.out)
                  have hl2 : (xs ++ [((fn, fb), p3, n3, c3)]).length = xs.length + 1 := by simp
                  obtain ⟨p5, c5, rfl, _, _⟩ := RowE.shape _ (OwnE.row _ ho)
                  have HXI2 : Hid (i < (xs ++ [((fn, fb), p3, n3, c3)]).length) := Lib.hid (by have := HXI.out; omega)
                  have hl3 : (xs ++ [((fn, fb), p3, n3, c3)]).length ≤ 1001 := by omega
                  clear ho hbb HQ HT HL9 R9 hl2 HMs HM
                  generalize xs ++ [((fn, fb), p3, n3, c3)] = xs2 at *
                  generalize ts ++ [Tr.mk (fn, fb) fk] = ts2 at *
                  go_wp2
                  exact ⟨⟨j + 1, xs2, ts2, p5, c5, by omega, hl3, HMa, by simp, rfl, HXI2, HQ2, HB2⟩, by simp [intOf]; omega⟩
                · have q1 : ¬ (xs.length : Int) ≤ 1000 := by omega
                  have HQ2 : Hid (QueueF w wa (.slice p1 xs.length c1) xs ts) := Lib.hid ⟨HQ.out.1, HQ1.out, HQ.out.2.2⟩
                  have HM2 := Lib.hid (HMs.out (counts (L.drop (j + 1))) (by have := HQ.out.1; omega))
                  clear HQ HQ1 HMa HMs HM
                  go_wp2
                  exact ⟨⟨j + 1, xs, ts, p1, c1, by omega, hxl, HM2, by simp, rfl, HXI, HQ2, HB1⟩, by simp [intOf]; omega⟩
              · obtain rfl : j = L.length := by omega
                have hxi := HXI.out
                have HM1 := Lib.hid (MInv.done HM.out)
                clear HM
                have hi2 : i + 1 ≤ 1002 := by omega
                clear hlt hj
                go_wp2
                exact ⟨⟨i + 1, xs, ts, p1, c1, hi2, hxl, HM1, by simp, rfl, HQ, HB⟩, by simp [intOf]; omega⟩
          · have q1 : ¬ (xs.length : Int) ≤ 1000 := by omega
            go_wp2
            go_ret
            exact ⟨_, rfl, fun hN => by have := MInv.over HM.out hN; have := HQ.out.1; omega, HB.out⟩
        · go_wp2
          go_ret
          exact ⟨_, rfl, fun hN => by have := MInv.last HM.out hN; have := HQ.out.1; omega, HB.out⟩
end Go.Proofs.Ytefmlbckbhlgdaa
namespace Go.Proofs.Ytefmlbckbhlgdaa
open Go.RowKit
theorem some_if {α : Type} (p : Prop) [Decidable p] (a : α) : (if p then some a else none).isSome = decide p := by
  split <;> simp [*]
theorem leaf_fits (c : UInt8) (hc : leafK c = true) (fn : Nat) (fb : List UInt8) (fk : List Fd) : (itemK (.mk c []) (.mk (fn, fb) fk)).isSome = if c = 110 then (decide (fb = []) && decide (fk.length = 0)) else (decide (fn = 0) && decide (fk.length = 0)) && (if c = 98 then decide (fb.length ≤ 64) else decide ((fb.length : Int) = sizeK c)) := by
  have h42 : c ≠ 42 := by rintro rfl; revert hc; decide
  have h40 : c ≠ 40 := by rintro rfl; revert hc; decide
  rw [itemK]
  by_cases h1 : c = 110
  · rw [if_pos h1, if_pos h1, some_if]
    simp [List.length_eq_zero_iff]
  · rw [if_neg h1, if_neg h1]
    by_cases h2 : c = 98
    · rw [if_pos h2, if_pos h2, some_if]
      simp [List.length_eq_zero_iff, Bool.and_assoc]
    · rw [if_neg h2, if_neg h2, if_neg h42, if_neg h40, some_if]
      simp [List.length_eq_zero_iff, Bool.and_assoc]

set_option maxRecDepth 100000 in
set_option maxHeartbeats 4000000 in
theorem fits_leaf (s : ByteArray) (c : UInt8) (hs0 : (bl s)[0]? = some c) (hc : leafK c = true) (hs : s.size ≤ 1000) (fn : Nat) (fb : List UInt8) (fk : List Fd) (s' : Sl) (w : World) (hF : FieldAt w (.mk (fn, fb) fk) s') :
    Calls Try.prog 174 #[.string s, fV (fn, fb) s'] w fun e w' => e = .returned (.bool (itemK (.mk c []) (.mk (fn, fb) fk)).isSome) ∧ Below w.heap.size w w' := by
  obtain ⟨hi, hg⟩ := at_byte hs0
  clear hs0
  obtain ⟨pf, nf, cf⟩ := s'
  obtain ⟨hnf, f1, f2⟩ := RowT.sane hF
  replace hnf : nf = fk.length := hnf
  subst hnf
  unfold maxLen at f2
  simp only [fV, slV] at *
  have R3 := Lib.hid (RowAt.new w #[.int .u64 (fn : Int), .string (mkS fb), .slice pf fk.length cf] 64)
  have HB := Lib.hid (bel1 w (.cells #[.int .u64 (fn : Int), .string (mkS fb), .slice pf fk.length cf] 64))
  have dn := int0 fn
  have dl := int0 fk.length
  have hsz := mkS_size fb
  have db := mkS_nil fb
  have hi0 : (0 : Int) < s.size := by omega
  have HR := Lib.hid (leaf_fits c hc fn fb fk)
  generalize (itemK (.mk c []) (.mk (fn, fb) fk)).isSome = res at *
  clear hF
  rcases leafK_cases hc with rfl | rfl | rfl | rfl | rfl
  · replace hg : (s[0]'hi).toNat = _ := congrArg UInt8.toNat hg
    simp only [UInt8.reduceToNat] at hg
    clear hc
    go_enter Try.func174, Try.ntmps174
    go_upto_region 1 with (fail)
    generalize w.alloc (.cells #[.int .u64 (fn : Int), .string (mkS fb), .slice pf fk.length cf] 64) = W at *
    obtain ⟨y0, y1, y2, yf0, yf1, yf2⟩ := R3.out.c3
    go_cut [5] (fun t wr => t = .bool (decide (fn = 0) && decide (fk.length = 0)) ∧ W = wr)
    case first =>
      by_cases h1 : fn = 0
      · rw [decide_eq_true h1] at dn
        have H1 := Lib.hid h1
        clear h1
        go_wp2
        go_meet
        case rel => exact ⟨by simp [H1.out], rfl⟩
      · rw [decide_eq_false h1] at dn
        have H1 := Lib.hid h1
        clear h1
        go_wp2
        go_meet
        case rel => exact ⟨by simp [H1.out], rfl⟩
    case rest =>
    obtain ⟨rfl, rfl⟩ := hcut
    clear dn
    generalize hbz : (decide (fn = 0) && decide (fk.length = 0)) = bz at *
    have HBZ := Lib.hid hbz
    clear hbz
    by_cases h3 : fb = []
    · have dbb : (mkS fb).toList = [] := db.2 h3
      clear db
      have H3 := Lib.hid h3
      clear h3
      go_wp2
      go_ret
      refine ⟨?_, HB.out⟩
      rw [HR.out]
      simp [H3.out]
    · have dbb : ¬ (mkS fb).toList = [] := fun h => h3 (db.1 h)
      have dbe : (mkS fb).toList.isEmpty = false := by simpa using dbb
      clear db
      have H3 := Lib.hid h3
      clear h3
      go_wp2
      go_ret
      refine ⟨?_, HB.out⟩
      rw [HR.out]
      simp [H3.out]
  · replace hg : (s[0]'hi).toNat = _ := congrArg UInt8.toNat hg
    simp only [UInt8.reduceToNat] at hg
    clear hc
    go_enter Try.func174, Try.ntmps174
    go_upto_region 1 with (fail)
    generalize w.alloc (.cells #[.int .u64 (fn : Int), .string (mkS fb), .slice pf fk.length cf] 64) = W at *
    obtain ⟨y0, y1, y2, yf0, yf1, yf2⟩ := R3.out.c3
    go_cut [5] (fun t wr => t = .bool (decide (fn = 0) && decide (fk.length = 0)) ∧ W = wr)
    case first =>
      by_cases h1 : fn = 0
      · rw [decide_eq_true h1] at dn
        have H1 := Lib.hid h1
        clear h1
        go_wp2
        go_meet
        case rel => exact ⟨by simp [H1.out], rfl⟩
      · rw [decide_eq_false h1] at dn
        have H1 := Lib.hid h1
        clear h1
        go_wp2
        go_meet
        case rel => exact ⟨by simp [H1.out], rfl⟩
    case rest =>
    obtain ⟨rfl, rfl⟩ := hcut
    clear dn
    generalize hbz : (decide (fn = 0) && decide (fk.length = 0)) = bz at *
    have HBZ := Lib.hid hbz
    clear hbz
    by_cases h2 : fb.length = 32
    · have q2 : (((mkS fb).size : Int) == 32) = true := by simp only [beq_iff_eq]; omega
      have H2 := Lib.hid h2
      clear h2 hsz db
      cases bz
      all_goals
        go_wp2
        go_ret
        refine ⟨?_, HB.out⟩
        rw [HR.out]
        first | (simp; done) | (simp [sizeK]; have := H2.out; omega)
    · have q2 : (((mkS fb).size : Int) == 32) = false := by simp only [beq_eq_false_iff_ne]; omega
      have H2 := Lib.hid h2
      clear h2 hsz db
      cases bz
      all_goals
        go_wp2
        go_ret
        refine ⟨?_, HB.out⟩
        rw [HR.out]
        first | (simp; done) | (simp [sizeK]; have := H2.out; omega)
  · replace hg : (s[0]'hi).toNat = _ := congrArg UInt8.toNat hg
    simp only [UInt8.reduceToNat] at hg
    clear hc
    go_enter Try.func174, Try.ntmps174
    go_upto_region 1 with (fail)
    generalize w.alloc (.cells #[.int .u64 (fn : Int), .string (mkS fb), .slice pf fk.length cf] 64) = W at *
    obtain ⟨y0, y1, y2, yf0, yf1, yf2⟩ := R3.out.c3
    go_cut [5] (fun t wr => t = .bool (decide (fn = 0) && decide (fk.length = 0)) ∧ W = wr)
    case first =>
      by_cases h1 : fn = 0
      · rw [decide_eq_true h1] at dn
        have H1 := Lib.hid h1
        clear h1
        go_wp2
        go_meet
        case rel => exact ⟨by simp [H1.out], rfl⟩
      · rw [decide_eq_false h1] at dn
        have H1 := Lib.hid h1
        clear h1
        go_wp2
        go_meet
        case rel => exact ⟨by simp [H1.out], rfl⟩
    case rest =>
    obtain ⟨rfl, rfl⟩ := hcut
    clear dn
    generalize hbz : (decide (fn = 0) && decide (fk.length = 0)) = bz at *
    have HBZ := Lib.hid hbz
    clear hbz
    by_cases h2 : fb.length = 20
    · have q2 : (((mkS fb).size : Int) == 20) = true := by simp only [beq_iff_eq]; omega
      have H2 := Lib.hid h2
      clear h2 hsz db
      cases bz
      all_goals
        go_wp2
        go_ret
        refine ⟨?_, HB.out⟩
        rw [HR.out]
        first | (simp; done) | (simp [sizeK]; have := H2.out; omega)
    · have q2 : (((mkS fb).size : Int) == 20) = false := by simp only [beq_eq_false_iff_ne]; omega
      have H2 := Lib.hid h2
      clear h2 hsz db
      cases bz
      all_goals
        go_wp2
        go_ret
        refine ⟨?_, HB.out⟩
        rw [HR.out]
        first | (simp; done) | (simp [sizeK]; have := H2.out; omega)
  · replace hg : (s[0]'hi).toNat = _ := congrArg UInt8.toNat hg
    simp only [UInt8.reduceToNat] at hg
    clear hc
    go_enter Try.func174, Try.ntmps174
    go_upto_region 1 with (fail)
    generalize w.alloc (.cells #[.int .u64 (fn : Int), .string (mkS fb), .slice pf fk.length cf] 64) = W at *
    obtain ⟨y0, y1, y2, yf0, yf1, yf2⟩ := R3.out.c3
    go_cut [5] (fun t wr => t = .bool (decide (fn = 0) && decide (fk.length = 0)) ∧ W = wr)
    case first =>
      by_cases h1 : fn = 0
      · rw [decide_eq_true h1] at dn
        have H1 := Lib.hid h1
        clear h1
        go_wp2
        go_meet
        case rel => exact ⟨by simp [H1.out], rfl⟩
      · rw [decide_eq_false h1] at dn
        have H1 := Lib.hid h1
        clear h1
        go_wp2
        go_meet
        case rel => exact ⟨by simp [H1.out], rfl⟩
    case rest =>
    obtain ⟨rfl, rfl⟩ := hcut
    clear dn
    generalize hbz : (decide (fn = 0) && decide (fk.length = 0)) = bz at *
    have HBZ := Lib.hid hbz
    clear hbz
    by_cases h2 : fb.length = 65
    · have q2 : (((mkS fb).size : Int) == 65) = true := by simp only [beq_iff_eq]; omega
      have H2 := Lib.hid h2
      clear h2 hsz db
      cases bz
      all_goals
        go_wp2
        go_ret
        refine ⟨?_, HB.out⟩
        rw [HR.out]
        first | (simp; done) | (simp [sizeK]; have := H2.out; omega)
    · have q2 : (((mkS fb).size : Int) == 65) = false := by simp only [beq_eq_false_iff_ne]; omega
      have H2 := Lib.hid h2
      clear h2 hsz db
      cases bz
      all_goals
        go_wp2
        go_ret
        refine ⟨?_, HB.out⟩
        rw [HR.out]
        first | (simp; done) | (simp [sizeK]; have := H2.out; omega)
  · replace hg : (s[0]'hi).toNat = _ := congrArg UInt8.toNat hg
    simp only [UInt8.reduceToNat] at hg
    clear hc
    go_enter Try.func174, Try.ntmps174
    go_upto_region 1 with (fail)
    generalize w.alloc (.cells #[.int .u64 (fn : Int), .string (mkS fb), .slice pf fk.length cf] 64) = W at *
    obtain ⟨y0, y1, y2, yf0, yf1, yf2⟩ := R3.out.c3
    go_cut [5] (fun t wr => t = .bool (decide (fn = 0) && decide (fk.length = 0)) ∧ W = wr)
    case first =>
      by_cases h1 : fn = 0
      · rw [decide_eq_true h1] at dn
        have H1 := Lib.hid h1
        clear h1
        go_wp2
        go_meet
        case rel => exact ⟨by simp [H1.out], rfl⟩
      · rw [decide_eq_false h1] at dn
        have H1 := Lib.hid h1
        clear h1
        go_wp2
        go_meet
        case rel => exact ⟨by simp [H1.out], rfl⟩
    case rest =>
    obtain ⟨rfl, rfl⟩ := hcut
    clear dn
    generalize hbz : (decide (fn = 0) && decide (fk.length = 0)) = bz at *
    have HBZ := Lib.hid hbz
    clear hbz
    by_cases h2 : fb.length ≤ 64
    · have q2 : ((mkS fb).size : Int) ≤ 64 := by omega
      have H2 := Lib.hid h2
      clear h2 hsz db
      cases bz
      all_goals
        go_wp2
        go_ret
        refine ⟨?_, HB.out⟩
        rw [HR.out]
        simp [H2.out]
    · have q2 : ¬ ((mkS fb).size : Int) ≤ 64 := by omega
      have H2 := Lib.hid h2
      clear h2 hsz db
      cases bz
      all_goals
        go_wp2
        go_ret
        refine ⟨?_, HB.out⟩
        rw [HR.out]
        simp [H2.out]
end Go.Proofs.Ytefmlbckbhlgdaa
namespace Go.Proofs.Ytefmlbckbhlgdaa
open Go.RowKit
theorem starI_some (k : Kd) : ∀ l : List Fd, (l.mapM (itemK k)).isSome = l.all fun x => (itemK k x).isSome
  | [] => by simp
  | x :: l => by
    have ih := starI_some k l
    rw [List.mapM_cons, List.all_cons, ← ih]
    cases itemK k x <;> simp
    cases l.mapM (itemK k) <;> simp
theorem star_fits (c : UInt8) (fn : Nat) (fb : List UInt8) (fk : List Fd) : (itemK (.mk 42 [.mk c []]) (.mk (fn, fb) fk)).isSome = (decide (fn = 0) && (decide (fb = []) && (decide (fk.length ≤ 40) && fk.all fun x => (itemK (.mk c []) x).isSome))) := by
  rw [itemK, if_neg (by decide), if_neg (by decide), if_pos rfl, starI, ← starI_some]
  by_cases h : fn = 0 ∧ fb = [] ∧ fk.length ≤ 40
  · rw [if_pos h]
    simp [h.1, h.2.1, h.2.2]
  · rw [if_neg h]
    by_cases h1 : fn = 0
    · by_cases h2 : fb = []
      · have h3 : ¬ fk.length ≤ 40 := fun e => h ⟨h1, h2, e⟩
        simp [h3]
      · simp [h2]
    · simp [h1]

set_option maxRecDepth 100000 in
set_option maxHeartbeats 4000000 in
theorem fits_star (s : ByteArray) (c : UInt8) (h0 : (bl s)[0]? = some 42) (h1 : (bl s)[1]? = some c) (hc : leafK c = true) (hs : s.size ≤ 1000) (fn : Nat) (fb : List UInt8) (fk : List Fd) (s' : Sl) (w : World) (hF : FieldAt w (.mk (fn, fb) fk) s') :
    Calls Try.prog 174 #[.string s, fV (fn, fb) s'] w fun e w' => e = .returned (.bool (itemK (.mk 42 [.mk c []]) (.mk (fn, fb) fk)).isSome) ∧ Below w.heap.size w w' := by
  have K1 : (bl (s.extract 1 s.size))[0]? = some c := by rw [bl_extract, ← bl_length, List.take_length, List.getElem?_drop]; simpa using h1
  have KL : ∀ (x : Fd) (sx : Sl) (W : World), FieldAt W x sx → Calls Try.prog 174 #[.string (s.extract 1 s.size), fV x.val sx] W fun e w' => e = .returned (.bool (itemK (.mk c []) x).isSome) ∧ Below W.heap.size W w' := fun x sx W hx => by
    obtain ⟨⟨xn, xb⟩, xk⟩ := x
    exact fits_leaf (s.extract 1 s.size) c K1 hc (by rw [ByteArray.size_extract]; omega) xn xb xk sx W hx
  have hlen : 1 ≤ s.size := by have := (at_byte h0).1; omega
  obtain ⟨hi, hg⟩ := at_byte h0
  clear h0 h1 K1 hc
  replace KL := Lib.hid KL
  have hF' := hF
  obtain ⟨pf, nf, cf⟩ := s'
  obtain ⟨hnf, f1, f2⟩ := RowT.sane hF
  replace hnf : nf = fk.length := hnf
  subst hnf
  unfold maxLen at f2
  simp only [fV, slV] at *
  have R3 := Lib.hid (RowAt.new w #[.int .u64 (fn : Int), .string (mkS fb), .slice pf fk.length cf] 64)
  have HB := Lib.hid (bel1 w (.cells #[.int .u64 (fn : Int), .string (mkS fb), .slice pf fk.length cf] 64))
  have dn := int0 fn
  have dl := int0 fk.length
  have db := mkS_nil fb
  have hi0 : (0 : Int) < s.size := by omega
  have hi1 : (1 : Int) ≤ s.size := by omega
  replace HF := Lib.hid hF'
  clear hF hF'
  have HR := Lib.hid (star_fits c fn fb fk)
  generalize (itemK (.mk 42 [.mk c []]) (.mk (fn, fb) fk)).isSome = res at *
  replace hg : (s[0]'hi).toNat = _ := congrArg UInt8.toNat hg
  simp only [UInt8.reduceToNat] at hg
  generalize hs1 : s.extract 1 s.size = s1 at *
  go_enter Try.func174, Try.ntmps174
  go_upto_region 1 with (fail)
  generalize w.alloc (.cells #[.int .u64 (fn : Int), .string (mkS fb), .slice pf fk.length cf] 64) = W at *
  obtain ⟨y0, y1, y2, yf0, yf1, yf2⟩ := R3.out.c3
  go_cut [5] (fun t wr => (∃ b, t = .bool b) ∧ W = wr)
  case first =>
    by_cases h1 : fn = 0
    · rw [decide_eq_true h1] at dn
      have H1 := Lib.hid h1
      clear h1
      go_wp2
      go_meet
      case rel => exact ⟨⟨_, rfl⟩, rfl⟩
    · rw [decide_eq_false h1] at dn
      have H1 := Lib.hid h1
      clear h1
      go_wp2
      go_meet
      case rel => exact ⟨⟨_, rfl⟩, rfl⟩
  case rest =>
  obtain ⟨⟨bz, rfl⟩, rfl⟩ := hcut
  by_cases h1 : fn = 0
  · by_cases h2 : fb = []
    · rw [decide_eq_true h1] at dn
      have dbb : (mkS fb).toList = [] := db.2 h2
      have dbe : (mkS fb).toList.isEmpty = true := by simpa using dbb
      have H1 := Lib.hid h1
      have H2 := Lib.hid h2
      clear h1 h2 db
      go_upto_region 18 with (fail)
      clear y0 y1 yf0 yf1 yf2
      go_loopw [85] (fun s85 wr => ∃ (i : Nat), i ≤ fk.length ∧ s85 = .int .i64 i ∧ Hid ((fk.take i).all (fun x => (itemK (.mk c []) x).isSome) = true) ∧ Hid (Below w.heap.size w wr) ∧ Hid (RowAt wr w.heap.size #[.int .u64 (fn : Int), .string (mkS fb), .slice pf fk.length cf] 64)) (fun s _ => fk.length - (intOf s).toNat)
      case atStart => exact ⟨0, Nat.zero_le _, rfl, Lib.hid (by simp), HB, R3⟩
      case round =>
        clear HB R3
        obtain ⟨i, hi, rfl, hall, hb, hr⟩ := hrel
        have HB := Lib.hid hb.out
        have HA := Lib.hid hall.out
        have R3 := Lib.hid hr.out
        clear hb hall hr
        by_cases hlt : i < fk.length
        · obtain ⟨f, hf⟩ : ∃ f, fk[i]? = some f := ⟨_, List.getElem?_eq_getElem hlt⟩
          obtain ⟨adf, sf, rfl, hfc, hfk⟩ := RowT.at2 (HF.out.below HB.out (Nat.le_refl _)) hf
          have HN : Hid ((fk.take (i + 1)).all (fun x => (itemK (.mk c []) x).isSome) = (itemK (.mk c []) f).isSome) := Lib.hid (by
            rw [List.take_add_one, hf]
            simp [HA.out])
          have HM : Hid ((itemK (.mk c []) f).isSome = false → fk.all (fun x => (itemK (.mk c []) x).isSome) = false) := Lib.hid (fun h => by
            rw [List.all_eq_false]
            exact ⟨f, List.mem_of_getElem? hf, by simp [h]⟩)
          have KC := Lib.hid (KL.out f sf)
          obtain ⟨p3, n3, c3⟩ := sf
          obtain ⟨⟨xn, xb⟩, xk⟩ := f
          have r0 := hfc 0 _ rfl
          have r1 := hfc 1 _ rfl
          have r2 := hfc 2 _ rfl
          replace r0 : wr.cell? (adf.add (i * 3)) = some (.int .u64 (xn : Int)) := r0
          replace r1 : wr.cell? ⟨(adf.add (i * 3)).block, (adf.add (i * 3)).off + 1, none⟩ = some (.string (mkS xb)) := r1
          replace r2 : wr.cell? ⟨(adf.add (i * 3)).block, (adf.add (i * 3)).off + 2, none⟩ = some (.slice p3 n3 c3) := r2
          clear HA hfc hf
          go_upto_region 20 with (fail)
          have B1 := bel1 wr (.cells #[.int .u64 (xn : Int), .string (mkS xb), .slice p3 n3 c3] 64)
          have R8 := Lib.hid (RowAt.new wr #[.int .u64 (xn : Int), .string (mkS xb), .slice p3 n3 c3] 64)
          have HFk := Lib.hid (RowT.below hfk B1 (Nat.le_refl _))
          replace HB := Lib.hid (HB.out.trans (B1.mono HB.out.size))
          replace R3 := Lib.hid (R3.out.belowS B1)
          clear r0 r1 r2 B1 hfk
          generalize wr.alloc (.cells #[.int .u64 (xn : Int), .string (mkS xb), .slice p3 n3 c3] 64) = wa at *
          generalize wr.heap.size = k8 at *
          obtain ⟨z0, z1, z2, zf0, zf1, zf2⟩ := R8.out.lw3
          replace KC : Hid (∀ u : Later wa, Calls Try.prog 174 #[.string s1, .agg #[.int .u64 (xn : Int), .string (mkS xb), .slice p3 n3 c3]] u.w fun e w' => e = .returned (.bool (itemK (.mk c []) (.mk (xn, xb) xk)).isSome) ∧ Below u.w.heap.size u.w w') := Lib.hid fun u => KC.out u.w (RowT.below HFk.out u.below (Nat.le_refl _))
          generalize (itemK (.mk c []) (.mk (xn, xb) xk)).isSome = b at *
          (refine region_later mix ?hB ?_; case hB => kernel_rfl); (repeat (first | go_big_quiet_step ((go_at_call 174; with_reducible exact Later.call (KC.out _))) | quiet_step ((go_at_call 174; with_reducible exact Later.call (KC.out _))))); (refine wpQuiet_nil ?_; rintro _ ⟨u, rfl⟩)
          clear z0 z1 z2 zf0 zf1 zf2 KC
          replace R3 := Lib.hid (R3.out.later u)
          replace HB := Lib.hid (HB.out.trans (u.below.mono HB.out.size))
          generalize u.w = wu at *
          cases b
          · go_wp2
            go_ret
            refine ⟨?_, HB.out⟩
            rw [HR.out, HM.out trivial]
            simp
          · go_wp2
            exact ⟨⟨i + 1, by omega, by simp, HN, HB, R3⟩, by simp [intOf]; omega⟩
        · obtain rfl : i = fk.length := by omega
          obtain ⟨y0, y1, y2, yf0, yf1, yf2⟩ := R3.out.c3
          have HA2 := HA.out
          rw [List.take_length] at HA2
          by_cases h40 : fk.length ≤ 40
          · have q40 : (fk.length : Int) ≤ 40 := by omega
            have H4 := Lib.hid h40
            have HA3 := Lib.hid HA2
            clear h40 HA2 HA
            go_wp2
            go_ret
            refine ⟨?_, HB.out⟩
            rw [HR.out, HA3.out]
            simp [H1.out, H2.out, H4.out]
          · have q40 : ¬ (fk.length : Int) ≤ 40 := by omega
            have H4 := Lib.hid h40
            clear h40 HA2 HA
            go_wp2
            go_ret
            refine ⟨?_, HB.out⟩
            rw [HR.out]
            simp [H4.out]
    · have dbb : ¬ (mkS fb).toList = [] := fun h => h2 (db.1 h)
      have dbe : (mkS fb).toList.isEmpty = false := by simpa using dbb
      rw [decide_eq_true h1] at dn
      have H1 := Lib.hid h1
      have H2 := Lib.hid h2
      clear h1 h2 db
      go_wp2
      go_ret
      refine ⟨?_, HB.out⟩
      rw [HR.out]
      simp [H2.out]
  · rw [decide_eq_false h1] at dn
    have H1 := Lib.hid h1
    clear h1 db
    go_wp2
    go_ret
    refine ⟨?_, HB.out⟩
    rw [HR.out]
    simp [H1.out]
end Go.Proofs.Ytefmlbckbhlgdaa
namespace Go.Proofs.Ytefmlbckbhlgdaa
open Go.RowKit
theorem rowI_more (k : Kd) (ks : List Kd) (f : Fd) (l : List Fd) : (rowI (k :: ks) (f :: l)).isSome = ((itemK k f).isSome && (rowI ks l).isSome) := by
  rw [rowI]
  cases itemK k f <;> cases rowI ks l <;> rfl
theorem rowI_len : ∀ {ks : List Kd} {l : List Fd}, (rowI ks l).isSome = true → ks.length = l.length
  | [], [], _ => rfl
  | [], _ :: _, h => by rw [rowI] at h; cases h
  | _ :: _, [], h => by rw [rowI] at h; cases h
  | k :: ks, f :: l, h => by
    rw [rowI_more] at h
    have := rowI_len (ks := ks) (l := l) (by cases hh : (rowI ks l).isSome <;> simp [hh] at h ⊢)
    simp [this]
theorem rowI_drop {ks : List Kd} {l : List Fd} {i : Nat} {k : Kd} {f : Fd} (hk : ks[i]? = some k) (hf : l[i]? = some f) : (rowI (ks.drop i) (l.drop i)).isSome = ((itemK k f).isSome && (rowI (ks.drop (i + 1)) (l.drop (i + 1))).isSome) := by
  rw [List.drop_eq_getElem_cons (List.getElem?_eq_some_iff.1 hk).1, (List.getElem?_eq_some_iff.1 hk).2, List.drop_eq_getElem_cons (List.getElem?_eq_some_iff.1 hf).1, (List.getElem?_eq_some_iff.1 hf).2, rowI_more]

theorem fits_tok (t : List UInt8) (ht : tokOk t) (f : Fd) (s' : Sl) (w : World) (hF : FieldAt w f s') :
    Calls Try.prog 174 #[.string (mkS t), fV f.val s'] w fun e w' => e = .returned (.bool (itemK (tokK t) f).isSome) ∧ Below w.heap.size w w' := by
  obtain ⟨⟨fn, fb⟩, fk⟩ := f
  obtain ⟨c, hc, rfl | rfl⟩ := ht
  · exact fits_leaf (mkS [c]) c (by rw [bl_mk]; rfl) hc (by rw [mkS_size]; simp) fn fb fk s' w hF
  · exact fits_star (mkS [42, c]) c (by rw [bl_mk]; rfl) (by rw [bl_mk]; rfl) hc (by rw [mkS_size]; simp) fn fb fk s' w hF

set_option maxRecDepth 100000 in
set_option maxHeartbeats 4000000 in
theorem all_toks (toks : List (List UInt8)) (ht : ∀ t ∈ toks, tokOk t) (v : Value) (l : List Fd) (v' : Value) (w : World) (hv : RowE encS w v (toks.map mkS)) (hl : RowT encFd (fun _ => True) w v' l) :
    Calls Try.prog 152 #[v, v'] w fun e w' => e = .returned (.bool (rowI (toks.map tokK) l).isSome) ∧ Below w.heap.size w w' := by
  obtain ⟨p', cap', rfl, s1', s2'⟩ := RowT.shape hl
  obtain ⟨p, cap, rfl, s1, s2⟩ := RowE.shape _ hv
  rw [List.length_map] at *
  unfold maxLen at s2 s2'
  have HV := Lib.hid hv
  have HL := Lib.hid hl
  have HB := Lib.hid (Below.refl w.heap.size w)
  have HT := Lib.hid ht
  have HLEN : Hid (toks.length ≠ l.length → (rowI (toks.map tokK) l).isSome = false) := Lib.hid fun h => by
    cases e : (rowI (toks.map tokK) l).isSome
    · rfl
    · exact absurd (by rw [← rowI_len e, List.length_map]) h
  have HD : Hid ((rowI ((toks.map tokK).drop 0) (l.drop 0)).isSome = (rowI (toks.map tokK) l).isSome) := Lib.hid rfl
  generalize (rowI (toks.map tokK) l).isSome = res at *
  clear hv hl ht
  by_cases heq : toks.length = l.length
  · have q : ((toks.length : Nat) : Int) = l.length := by omega
    have HEQ := Lib.hid heq
    clear HLEN heq
    go_enter Try.func152, Try.ntmps152
    go_upto_region 4 with (fail)
    go_loopw [13] (fun s13 wr => ∃ (i : Nat), i ≤ l.length ∧ s13 = .int .i64 i ∧ Hid ((rowI ((toks.map tokK).drop i) (l.drop i)).isSome = res) ∧ Hid (Below w.heap.size w wr)) (fun s _ => l.length - (intOf s).toNat)
    case atStart => exact ⟨0, Nat.zero_le _, rfl, HD, HB⟩
    case round =>
      clear HB HD
      obtain ⟨i, hi, rfl, hd, hb⟩ := hrel
      have HB := Lib.hid hb.out
      have HD := Lib.hid hd.out
      clear hb hd
      by_cases hlt : i < l.length
      · obtain ⟨f, hf⟩ : ∃ f, l[i]? = some f := ⟨_, List.getElem?_eq_getElem hlt⟩
        have hlt2 : i < toks.length := by have := HEQ.out; omega
        obtain ⟨t, htk⟩ : ∃ t, toks[i]? = some t := ⟨_, List.getElem?_eq_getElem hlt2⟩
        obtain ⟨adf, sf, rfl, hfc, hfk⟩ := RowT.at2 HL.out hf
        have HA := HV.out.atS.2.2.2
        obtain ⟨ad, rfl, c0⟩ := HA i (mkS t) (by rw [List.getElem?_map, htk]; rfl)
        have HD1 := HD.out
        rw [rowI_drop (k := tokK t) (by rw [List.getElem?_map, htk]; rfl) hf] at HD1
        replace HD := Lib.hid HD1
        clear HD1
        have KC := Lib.hid (fits_tok t (HT.out t (List.mem_of_getElem? htk)) f sf)
        obtain ⟨p3, n3, c3⟩ := sf
        obtain ⟨⟨xn, xb⟩, xk⟩ := f
        have key : ∀ {q : Addr} {v : Value}, w.cell? q = some v → ∀ u : Later wr, u.w.cell? q = some v := fun h u => by
          rw [(HB.out.trans (u.below.mono HB.out.size)).cell (block_lt_of_cell h)]; exact h
        have r0 : ∀ u : Later wr, u.w.cell? (adf.add (i * 3)) = some (.int .u64 (xn : Int)) := key (hfc 0 _ rfl)
        have r1 : ∀ u : Later wr, u.w.cell? ⟨(adf.add (i * 3)).block, (adf.add (i * 3)).off + 1, none⟩ = some (.string (mkS xb)) := key (hfc 1 _ rfl)
        have r2 : ∀ u : Later wr, u.w.cell? ⟨(adf.add (i * 3)).block, (adf.add (i * 3)).off + 2, none⟩ = some (.slice p3 n3 c3) := key (hfc 2 _ rfl)
        have r3 : ∀ u : Later wr, u.w.cell? (ad.add i) = some (.string (mkS t)) := key c0
        replace KC : Hid (∀ u : Later wr, Calls Try.prog 174 #[.string (mkS t), .agg #[.int .u64 (xn : Int), .string (mkS xb), .slice p3 n3 c3]] u.w fun e w' => e = .returned (.bool (itemK (tokK t) (.mk (xn, xb) xk)).isSome) ∧ Below u.w.heap.size u.w w') := Lib.hid fun u => KC.out u.w (RowT.below hfk (HB.out.trans (u.below.mono HB.out.size)) (Nat.le_refl _))
        generalize (itemK (tokK t) (.mk (xn, xb) xk)).isSome = b at *
        clear key hfc hfk hf c0 HA htk q
        go_upto_region 6 with (fail)
        (refine region_later mix ?hB ?_; case hB => kernel_rfl); (repeat (first | go_big_quiet_step ((go_at_call 174; with_reducible exact Later.call (KC.out _))) | quiet_step ((go_at_call 174; with_reducible exact Later.call (KC.out _))))); (refine wpQuiet_nil ?_; rintro _ ⟨u, rfl⟩)
        clear r0 r1 r2 r3 KC
        replace HB := Lib.hid (HB.out.trans (u.below.mono HB.out.size))
        generalize u.w = wu at *
        cases b
        · go_wp2
          go_ret
          exact ⟨by rw [← HD.out]; simp, HB.out⟩
        · go_wp2
          exact ⟨⟨i + 1, by omega, by push_cast; rfl, Lib.hid (by have := HD.out; rwa [Bool.true_and] at this), HB⟩, by simp [intOf]; omega⟩
      · obtain rfl : i = l.length := by omega
        have HD1 := HD.out
        rw [List.drop_length, List.drop_of_length_le (by rw [List.length_map]; have := HEQ.out; omega), rowI] at HD1
        replace HD := Lib.hid HD1
        clear HD1
        go_wp2
        go_ret
        exact ⟨by rw [← HD.out]; rfl, HB.out⟩
  · have q : ¬ ((toks.length : Nat) : Int) = l.length := by omega
    replace HLEN := Lib.hid (HLEN.out heq)
    clear heq
    go_enter Try.func152, Try.ntmps152
    go_wp2
    go_ret
    exact ⟨by rw [HLEN.out]; rfl, HB.out⟩
end Go.Proofs.Ytefmlbckbhlgdaa
namespace Go.Proofs.Ytefmlbckbhlgdaa
open Go.RowKit
/-- A form of kinds of one level, its fields of few. -/
structure FlatF (s : ByteArray) (toks : List (List UInt8)) : Prop where
  eq : bl s = toks.flatten
  ok : ∀ t ∈ toks, tokOk t
  size : s.size ≤ 40
  few : ∀ l, (rowI (toks.map tokK) l).isSome = true → counts l ≤ 1000

set_option maxRecDepth 100000 in
set_option maxHeartbeats 4000000 in
theorem rfits_any (s : ByteArray) (toks : List (List UInt8)) (h : FlatF s toks) (v : Value) (l : List Fd) (w : World) (hl : RowT encFd (fun _ => True) w v l) :
    Calls Try.prog 109 #[.string s, v] w fun e w' => e = .returned (.bool (rowI (toks.map tokK) l).isSome) ∧ Below w.heap.size w w' := by
  have KK := Lib.hid (rkinds_any s toks h.eq h.ok h.size w)
  have KA := Lib.hid (fun v W (hv : RowE encS W v (toks.map mkS)) (hw : Below w.heap.size w W) => all_toks toks h.ok v l _ W hv (hl.below hw (Nat.le_refl _)))
  have KM := Lib.hid (fun W (hw : Below w.heap.size w W) => many_count v l W (hl.below hw (Nat.le_refl _)))
  have HF := Lib.hid (h.few l)
  clear h hl
  generalize (rowI (toks.map tokK) l).isSome = res at *
  go_enter Try.func109, Try.ntmps109
  go_upto_region 2 with (go_at_call 59; refine KK.out.mono ?_; rintro e w1 ⟨kv, rfl, ho, hb⟩; have HB := Lib.hid hb; have HO := Lib.hid (OwnE.row _ ho); clear hb ho)
  replace KM := Lib.hid (KM.out w1 HB.out)
  replace KM : Hid (Calls Try.prog 151 #[v, .int .i64 1000] w1 fun e w' => ∃ n : Int, e = .returned (.int .i64 n) ∧ (res = true → n ≤ 1000) ∧ Below w1.heap.size w1 w') := Lib.hid (KM.out.mono fun e w' ⟨n, h1, h2, h3⟩ => ⟨n, h1, fun hr => by rw [h2 (HF.out hr)]; have := HF.out hr; omega, h3⟩)
  clear HF
  go_wp2_with (first
    | (go_at_call 151; refine KM.out.mono ?_; rintro e w2 ⟨n, rfl, hn, hb⟩; have HN := Lib.hid hn; replace HO := Lib.hid (RowE.below encS HO.out hb (Nat.le_refl _)); replace HB := Lib.hid (HB.out.trans (hb.mono HB.out.size)); clear hn hb; by_cases hle : n ≤ 1000)
    | (go_at_call 152; refine (KA.out kv _ HO.out HB.out).mono ?_; rintro e w3 ⟨rfl, hb⟩; replace HB := Lib.hid (HB.out.trans (hb.mono HB.out.size)); clear hb))
  · go_ret
    exact ⟨rfl, HB.out⟩
  · go_ret
    refine ⟨?_, HB.out⟩
    cases res
    · rfl
    · exact absurd (HN.out rfl) (by omega)
end Go.Proofs.Ytefmlbckbhlgdaa
namespace Go.Proofs.Ytefmlbckbhlgdaa
open Go.RowKit
section
variable {P : Program} {ops : Array Oper} {md : Region.Mode} {W : World} {c : Nat}
/-- A read's value, the same in all later worlds, none of which it turns. -/
def YR (P : Program) (ops : Array Oper) (W : World) (o : Oper) (v : Value) (a : Act) : Prop :=
  (Region.wanted o (yielded ops a.tmps) = true ∧ ∀ u : Later W, o.quietAt P a (fun w' => w' = u.w) u.w v) ∨ (Region.wanted o (yielded ops a.tmps) = false ∧ v = undef)
/-- The call, whatever it answers. -/
def EC (P : Program) (W : World) (o : Oper) (K : Act → World → Prop) (a : Act) (w : World) : Prop :=
  match (execOp a.eval o).run P w with
  | .ok (.enter f args) w' => w' = w ∧ Calls P f args w (fun e w'' => ∃ v, e = .returned v ∧ Below W.heap.size W w'' ∧ K (a.put o.dst v) w'')
  | _ => False
/-- What is made behind it. -/
def EB (P : Program) (o : Oper) (K : Act → World → Prop) (a : Act) (w : World) : Prop :=
  match (execOp a.eval o).run P w with
  | .ok (.value u) w' => (∃ obj, w' = w.alloc obj) ∧ K (a.put o.dst u) w'
  | _ => False
theorem EB.spec {o : Oper} {K : Act → World → Prop} {a : Act} {w : World} (h : EB P o K a w) : ∃ u obj, (execOp a.eval o).run P w = .ok (.value u) (w.alloc obj) ∧ K (a.put o.dst u) (w.alloc obj) := by
  unfold EB at h
  generalize (execOp a.eval o).run P w = r at *
  cases r with
  | ok n w' =>
    cases n <;> simp only at h
    obtain ⟨⟨obj, rfl⟩, h⟩ := h
    exact ⟨_, obj, rfl, h⟩
  | halt x w' => simp only at h
theorem EB.of {o : Oper} {K : Act → World → Prop} {a : Act} {w : World} {u : Value} {obj : Obj} (h1 : (execOp a.eval o).run P w = .ok (.value u) (w.alloc obj)) (h2 : K (a.put o.dst u) (w.alloc obj)) : EB P o K a w := by
  unfold EB
  rw [h1]
  exact ⟨⟨obj, rfl⟩, h2⟩
theorem EC.mono {o : Oper} {K K' : Act → World → Prop} {a : Act} {w : World} (h : ∀ a w, K a w → K' a w) (hh : EC P W o K a w) : EC P W o K' a w := by
  unfold EC at *
  split at hh
  · exact ⟨hh.1, hh.2.mono fun e w'' ⟨v, h1, h2, h3⟩ => ⟨v, h1, h2, h _ _ h3⟩⟩
  · cases hh
def cOp (P : Program) (ops : Array Oper) (W : World) (c i : Nat) (K : Act → World → Prop) (a : Act) (w : World) : Prop :=
  match ops[i]? with
  | none => K a w
  | some o => if i = c then Region.wanted o (yielded ops a.tmps) = true ∧ EC P W o K a w
    else if i = c + 1 then Region.wanted o (yielded ops a.tmps) = true ∧ EB P o K a w
    else ∃ v, YR P ops W o v a ∧ K (a.put o.dst v) w
theorem cOp_mono {i : Nat} {a : Act} {w : World} {K K' : Act → World → Prop} (h : ∀ a w, K a w → K' a w) (hh : cOp P ops W c i K a w) : cOp P ops W c i K' a w := by
  unfold cOp at *
  split
  · rename_i ho
    simp only [ho] at hh
    exact h _ _ hh
  · rename_i o ho
    simp only [ho] at hh
    by_cases e : i = c
    · rw [if_pos e] at hh ⊢
      exact ⟨hh.1, hh.2.mono h⟩
    · rw [if_neg e] at hh ⊢
      by_cases e2 : i = c + 1
      · rw [if_pos e2] at hh ⊢
        obtain ⟨h1, hh⟩ := hh
        obtain ⟨u, ob, h2, h3⟩ := hh.spec
        exact ⟨h1, EB.of h2 (h _ _ h3)⟩
      · rw [if_neg e2] at hh ⊢
        obtain ⟨v, h1, h2⟩ := hh
        exact ⟨v, h1, h _ _ h2⟩
theorem YR.of_same {o : Oper} {v : Value} {a a' : Act} (hy : YR P ops W o v a) (he : execOp a'.eval o = execOp a.eval o) (hw : Region.wanted o (yielded ops a'.tmps) = Region.wanted o (yielded ops a.tmps)) : YR P ops W o v a' := by
  unfold YR Oper.quietAt at *
  rw [he, hw]
  exact hy
theorem cOp_put {j : Nat} {oi oj : Oper} {v : Value} {w : World} (hj : ops[j]? = some oj) (hap : oi.apart ops oj = true)
    (hsi : ∀ cs b, oi.op ≠ .select cs b) (hsj : ∀ cs b, oj.op ≠ .select cs b) {K : Act → World → Prop} {a : Act}
    (hy : YR P ops W oi v a) (h : cOp P ops W c j K (a.put oi.dst v) w) :
    cOp P ops W c j (fun a' w' => YR P ops W oi v a' ∧ K (a'.put oi.dst v) w') a w := by
  obtain ⟨h1, h2, h3⟩ := Oper.apart_spec hap
  have hs : ∀ u, YR P ops W oi v (a.put oj.dst u) := fun u => hy.of_same (execOp_put oi hsi a oj.dst u h3) (wanted_put oi a oj.dst u h3)
  have ee := execOp_put oj hsj a oi.dst v h1
  have ew := wanted_put (ops := ops) oj a oi.dst v h1
  unfold cOp at *
  simp only [hj] at *
  by_cases e : j = c
  · rw [if_pos e] at h ⊢
    refine ⟨by rw [← ew]; exact h.1, ?_⟩
    have h5 := h.2
    unfold EC at *
    rw [ee] at h5
    split at h5
    · exact ⟨h5.1, h5.2.mono fun e w'' ⟨u, k1, k2, k3⟩ => ⟨u, k1, k2, hs u, by rw [← Act.put_comm a v u h2]; exact k3⟩⟩
    · cases h5
  · rw [if_neg e] at h ⊢
    by_cases e2 : j = c + 1
    · rw [if_pos e2] at h ⊢
      obtain ⟨k1, h⟩ := h
      obtain ⟨u, ob, k2, k3⟩ := h.spec
      exact ⟨by rw [← ew]; exact k1, EB.of (by rw [← ee]; exact k2) ⟨hs u, by rw [← Act.put_comm a v u h2]; exact k3⟩⟩
    · rw [if_neg e2] at h ⊢
      obtain ⟨u, hu, hn⟩ := h
      exact ⟨u, hu.of_same ee.symm ew.symm, hs u, by rw [← Act.put_comm a v u h2]; exact hn⟩

def wpHeadC (P : Program) (md : Region.Mode) (ops : Array Oper) (W : World) (c n : Nat) (L : Array Bool → Act → World → Prop) : Nat → Array Bool → Act → World → Prop
  | 0, listed, a, w => L listed a w
  | f + 1, listed, a, w =>
    Region.ready md ops listed ≠ [] ∧ ∀ i ∈ Region.ready md ops listed, i < n ∧ cOp P ops W c i (wpHeadC P md ops W c n L f (listed.setIfInBounds i true)) a w

theorem wpOp_of_cOp {i : Nat} {a : Act} {K K' : Act → World → Prop} {Q' : Exit → Act → World → Prop} {w : World}
    (hC : Below W.heap.size W w) (h : ∀ a w', Below W.heap.size W w' → K a w' → K' a w') (hh : cOp P ops W c i K a w) : wpOp P ops Q' i K' a w := by
  unfold cOp at hh
  unfold wpOp
  split
  · rename_i ho
    simp only [ho] at hh
    exact h _ _ hC hh
  rename_i o ho
  simp only [ho] at hh
  by_cases e : i = c
  · rw [if_pos e] at hh
    obtain ⟨hw, hc⟩ := hh
    simp only [hw, if_true]
    refine .inl ?_
    unfold Oper.wp
    unfold EC at hc
    generalize (execOp a.eval o).run P w = r at *
    cases r with
    | ok n w' =>
      cases n <;> simp only at hc <;> simp only [Oper.upon]
      case enter f args =>
        obtain ⟨rfl, hcc⟩ := hc
        exact hcc.mono fun e w'' ⟨v, he, hb, hk⟩ => by
          subst he
          exact h _ _ hb hk
    | halt x w' => simp only at hc
  · rw [if_neg e] at hh
    by_cases e2 : i = c + 1
    · rw [if_pos e2] at hh
      obtain ⟨hw, hh⟩ := hh
      obtain ⟨u, ob, hr, hk⟩ := hh.spec
      simp only [hw, if_true]
      refine .inl ?_
      unfold Oper.wp
      rw [hr]
      exact h _ _ (hC.alloc hC.size ob) hk
    · rw [if_neg e2] at hh
      obtain ⟨v, hy, hK⟩ := hh
      rcases hy with ⟨hw, hq⟩ | ⟨hw, rfl⟩
      · simp only [hw, if_true]
        refine .inl ?_
        refine Oper.wp_of_quiet (C := fun w' => w' = w) rfl (fun a w' hw' hk => h a w' (by rw [hw']; exact hC) (by rw [hw']; exact hk)) (o := o) (K := fun a => K a w) ⟨v, fun w2 hw2 => ?_, hK⟩
        rw [hw2]
        exact hq (Later.of hC)
      · simp only [hw, Bool.false_eq_true, if_false]
        exact h _ _ hC hK

theorem wpAny_of_headC {n g : Nat} {L : Array Bool → Act → World → Prop} {Q' : Exit → Act → World → Prop} (hL : ∀ listed a w, L listed a w → wpAny P md ops Q' g listed a w) :
    ∀ (f : Nat) (listed : Array Bool) (a : Act) (w : World), Below W.heap.size W w → wpHeadC P md ops W c n L f listed a w → wpAny P md ops Q' (f + g) listed a w
  | 0, listed, a, w, _, h => by rw [Nat.zero_add]; exact hL _ _ _ h
  | f + 1, listed, a, w, hw, h => by
    rw [show f + 1 + g = (f + g) + 1 by omega]
    exact ⟨fun h0 => absurd h0 h.1, fun i hi => wpOp_of_cOp hw (fun a' w' hw' h' => wpAny_of_headC hL f _ a' w' hw' h') (h.2 i hi).2⟩

theorem YR.cOp {i : Nat} {o : Oper} {v : Value} {a : Act} {w : World} (hi : ops[i]? = some o) (hic : i ≠ c) (hic1 : i ≠ c + 1) (hy : YR P ops W o v a) {K : Act → World → Prop} (h : K (a.put o.dst v) w) : cOp P ops W c i K a w := by
  unfold Go.Proofs.Ytefmlbckbhlgdaa.cOp
  simp only [hi, if_neg hic, if_neg hic1]
  exact ⟨v, hy, h⟩

theorem wpHeadC_first {n i : Nat} {oi : Oper} {v : Value} {L : Array Bool → Act → World → Prop} (hi : ops[i]? = some oi) (hic : i ≠ c) (hic1 : i ≠ c + 1) (hsel : ∀ (j : Nat) (o : Oper) cs b, ops[j]? = some o → o.op ≠ .select cs b)
    (hs : Region.sinkB md ops n = true) (hc : Region.chainB md ops n = true) (hn : n < ops.size) (hin : i < n)
    (hdone : ∀ listed a w, L listed a w → ∀ j ∈ Region.ready md ops listed, n ≤ j) :
    ∀ (f : Nat) (listed : Array Bool) (a : Act) (w : World), HeadInv md ops n listed →
      (∀ j oj, ops[j]? = some oj → j ≠ i → listed.getD j true = false → (∀ e ∈ oj.after, Region.binds md e = true → e.on ≠ i) → oi.apart ops oj = true) →
      i ∈ Region.ready md ops listed → YR P ops W oi v a →
      wpHeadC P md ops W c n L f (listed.setIfInBounds i true) (a.put oi.dst v) w → wpHeadC P md ops W c n L (f + 1) listed a w := by
  intro f
  induction f with
  | zero =>
    intro listed a w inv _ hr hy H
    have hun := (mem_ready.1 hr).1
    refine ⟨fun h => (by rw [h] at hr; cases hr), fun j hj => ?_⟩
    have hjn : j < n := by
      rcases Nat.lt_or_ge j n with h | h
      · exact h
      · exact absurd hj (tail_waits hs hc hn inv _ i rfl hin hun j h)
    refine ⟨hjn, ?_⟩
    by_cases hji : j = i
    · subst hji; exact hy.cOp hi hic hic1 H
    · have := hdone _ _ _ H j (ready_mono hj hji)
      omega
  | succ f ih =>
    intro listed a w inv hfree hr hy H
    have hun := (mem_ready.1 hr).1
    refine ⟨fun h => (by rw [h] at hr; cases hr), fun j hj => ?_⟩
    have hjn : j < n := by
      rcases Nat.lt_or_ge j n with h | h
      · exact h
      · exact absurd hj (tail_waits hs hc hn inv _ i rfl hin hun j h)
    refine ⟨hjn, ?_⟩
    by_cases hji : j = i
    · subst hji; exact hy.cOp hi hic hic1 H
    · have h1 := (H.2 j (ready_mono hj hji)).2
      obtain ⟨hjun, oj, hoj, hall⟩ := mem_ready.1 hj
      have hnot : ∀ e ∈ oj.after, Region.binds md e = true → e.on ≠ i := fun e he hb heq => by
        have h1 := hall e he hb
        rw [heq, getD_both hun] at h1
        cases h1
      have h2 := cOp_put hoj (hfree j oj hoj hji hjun hnot) (fun cs b => hsel i oi cs b hi) (fun cs b => hsel j oj cs b hoj) hy h1
      have hfree' : ∀ k ok, ops[k]? = some ok → k ≠ i → (listed.setIfInBounds j true).getD k true = false →
          (∀ e ∈ ok.after, Region.binds md e = true → e.on ≠ i) → oi.apart ops ok = true := fun k ok hk hki hun hno => by
        refine hfree k ok hk hki ?_ hno
        by_cases hjk : j = k
        · subst hjk; exact hjun
        · rw [getD_set_ne true hjk] at hun; exact hun
      refine cOp_mono (fun a' w' h3 => ih (listed.setIfInBounds j true) a' w' (inv.set hj hjn) hfree' (ready_mono hr (Ne.symm hji)) h3.1 ?_) h2
      rw [Array.setIfInBounds_comm _ _ hji]
      exact h3.2

/-- The reads, in the order of the text. -/
def wpR (P : Program) (ops : Array Oper) (W : World) (Q : Act → Prop) : List Oper → Act → Prop
  | [], a => Q a
  | o :: rest, a => ∃ v, YR P ops W o v a ∧ wpR P ops W Q rest (a.put o.dst v)

/-- All ahead of 'k' are through: what may come is 'k'. -/
theorem only_ready {k n : Nat} {listed : Array Bool} (hs : Region.sinkB md ops n = true) (hc : Region.chainB md ops n = true) (hn : n < ops.size) (hkn : k < n) (inv : HeadInv md ops n listed) (hd : ∀ j, j < k → listed.getD j true = true)
    (hun : listed.getD k true = false) (hlast : ∀ j, k < j → j < n → j ∉ Region.ready md ops listed) : ∀ j ∈ Region.ready md ops listed, j = k := by
  intro j hj
  rcases Nat.lt_or_ge j n with h | h
  · rcases Nat.lt_or_ge j k with h2 | h2
    · have h1 := (mem_ready.1 hj).1
      rw [hd j h2] at h1; cases h1
    · by_cases e : j = k
      · exact e
      · exact absurd hj (hlast j (by omega) h)
  · exact absurd hj (tail_waits hs hc hn inv _ k rfl hkn hun j h)

theorem wpHeadC_lex {g : Nat} {oc ob : Oper} {Lq : Act → World → Prop} (hoc : ops[c]? = some oc) (hob : ops[c + 1]? = some ob) (hsel : Region.noSelect ops = true) (hs : Region.sinkB md ops (c + 2) = true) (hc : Region.chainB md ops (c + 2) = true) (hn : c + 2 < ops.size) (hwt : Region.waitsFor md ops (c + 1) c = true) :
    ∀ (l : List Oper) (k : Nat) (listed : Array Bool) (a : Act) (w : World), (∀ j, j < l.length → l[j]? = ops[k + j]?) → k + l.length = c → HeadInv md ops (c + 2) listed → (∀ j, j < k → listed.getD j true = true) →
    Region.lexHead md ops g (l.length + 2) k listed = true → wpR P ops W (fun a => Region.wanted oc (yielded ops a.tmps) = true ∧ EC P W oc (fun a w => Region.wanted ob (yielded ops a.tmps) = true ∧ EB P ob Lq a w) a w) l a →
    wpHeadC P md ops W c (c + 2) (fun listed' a' w' => Region.seqB md ops g (c + 2) listed' = true ∧ Lq a' w') (l.length + 2) listed a w
  | [], k, listed, a, w, _, hk, inv, hd, hB, h => by
    have : k = c := by simpa using hk
    subst this
    simp only [List.length_nil, Region.lexHead, Bool.and_eq_true] at hB
    obtain ⟨⟨hr, -⟩, ⟨hr2, -⟩, hB'⟩ := hB
    have hr' : k ∈ Region.ready md ops listed := by simpa using hr
    have hun := (mem_ready.1 hr').1
    have hr2' : k + 1 ∈ Region.ready md ops (listed.setIfInBounds k true) := by simpa using hr2
    have hun2 := (mem_ready.1 hr2').1
    refine ⟨fun h => (by rw [h] at hr'; cases hr'), fun j hj => ?_⟩
    have hjk : j = k := only_ready hs hc hn (by omega) inv hd hun (fun j h1 h2 hj => by
      obtain rfl : j = k + 1 := by omega
      obtain ⟨_, oj, hoj, hall⟩ := mem_ready.1 hj
      obtain ⟨o', ho', e, he, hb, hon⟩ := Region.waitsFor_spec hwt
      obtain rfl : o' = oj := Option.some.inj (ho'.symm.trans hoj)
      have h2 := hall e he hb
      rw [hon, getD_both hun] at h2
      cases h2) j hj
    subst hjk
    refine ⟨by omega, ?_⟩
    unfold cOp
    simp only [hoc, if_true]
    refine ⟨h.1, h.2.mono fun a w h => ⟨fun h => (by rw [h] at hr2'; cases hr2'), fun i hi => ?_⟩⟩
    have hik : i = j + 1 := only_ready hs hc hn (by omega) (inv.set hr' (by omega)) (fun m hm => by
      by_cases e : j = m
      · subst e; exact getD_set_same _ _
      · rw [getD_set_ne true e]; exact hd m (by omega)) hun2 (fun m h1 h2 _ => by omega) i hi
    subst hik
    refine ⟨by omega, ?_⟩
    unfold cOp
    simp only [hob, if_neg (show ¬ j + 1 = j by omega), if_true]
    obtain ⟨h1, h⟩ := h
    obtain ⟨u, obj, h2, h3⟩ := h.spec
    exact ⟨h1, EB.of h2 ⟨hB', h3⟩⟩
  | o :: l, k, listed, a, w, hl, hk, inv, hd, hB, h => by
    have h0 : ops[k]? = some o := by simpa using (hl 0 (by simp)).symm
    rw [List.length_cons, Region.lexHead, Bool.and_eq_true, Bool.and_eq_true] at hB
    obtain ⟨⟨hr, hf⟩, hB'⟩ := hB
    have hkc : k < c := by simp only [List.length_cons] at hk; omega
    have hr' : k ∈ Region.ready md ops listed := by simpa using hr
    obtain ⟨v, hy, hK⟩ := h
    exact wpHeadC_first h0 (by omega) (by omega) (Region.noSelect_spec hsel) hs hc hn (by omega) (fun listed' a' w' hL => seqB_ready hL.1) (l.length + 2) listed a w inv (Region.free_spec h0 hf) hr' hy
      (wpHeadC_lex hoc hob hsel hs hc hn hwt l (k + 1) _ _ w (fun j hj => by have := hl (j + 1) (by simp; omega); simpa [Nat.add_assoc, Nat.add_comm 1 j] using this) (by simp only [List.length_cons] at hk; omega) (inv.set hr' (by omega)) (fun j hj => by
        by_cases e : k = j
        · subst e; exact getD_set_same _ _
        · rw [getD_set_ne true e]; exact hd j (by omega)) hB' hK)
end
/-- Reads, one call behind them (its answer may hang on the world) and a slice made of it, ahead of a tail in one order: one walk, in the order of the text. -/
theorem region_call_tail {P : Program} {id : Nat} {Q : Exit → Act → World → Prop} {a : Act} {w : World} {l : List Oper} (c : Nat) (hm : P.follows .mixedOrders = true) (hB : (Region.lexTailB .any l.toArray (c + 2) && Region.waitsFor .any l.toArray (c + 1) c) = true)
    (h : ∃ oc ob, l.toArray[c]? = some oc ∧ l.toArray[c + 1]? = some ob ∧ wpR P l.toArray w (fun a => Region.wanted oc (yielded l.toArray a.tmps) = true ∧ EC P w oc (fun a w => Region.wanted ob (yielded l.toArray a.tmps) = true ∧ EB P ob (fun a w => wpList P l.toArray Q (l.drop (c + 2)) a w) a w) a { w with drawn := w.drawn + 1 }) (l.take c) a) : (Code.region id l.toArray true).wp P Q a w := by
  obtain ⟨oc, ob, hoc, hob, h⟩ := h
  simp only [Region.lexTailB, Bool.and_eq_true, decide_eq_true_eq] at hB
  obtain ⟨⟨⟨⟨⟨hsel, hn⟩, hs⟩, hc⟩, hlex⟩, hwt⟩ := hB
  have hn' : c + 2 < l.length := by simpa using hn
  have htl : (l.take c).length = c := by simp; omega
  have hdl : (l.drop (c + 2)).length = l.toArray.size - (c + 2) := by simp
  have inv0 : HeadInv .any l.toArray (c + 2) (Array.replicate l.toArray.size false) :=
    ⟨by simp, fun j oj _ hl => (by rw [getD_replicate_false] at hl; cases hl), fun t _ ht => getD_in (by simpa using ht) (getD_replicate_false _ _)⟩
  have H := wpHeadC_lex (md := .any) (g := l.toArray.size - (c + 2)) (c := c) (Lq := fun a' w' => wpList P l.toArray Q (l.drop (c + 2)) a' w') hoc hob hsel hs hc hn hwt (l.take c) 0 _ a { w with drawn := w.drawn + 1 } (fun j hj => by
    have hj' : j < c := by rw [htl] at hj; exact hj
    simp [hj']) (by simpa using htl) inv0 (fun j hj => absurd hj (Nat.not_lt_zero _)) (by rw [htl]; exact hlex) h
  refine wp_region_any hm ?_
  have := wpAny_of_headC (Q' := Q) (c := c) (g := l.toArray.size - (c + 2)) (fun listed a' w' hL => by
    have := wpAny_of_seq (md := .any) (Q' := Q) (l.drop (c + 2)) (c + 2) listed a' w' (fun j => by simp [List.getElem?_drop]) (by rw [hdl]; exact hL.1) hL.2
    rwa [hdl] at this) _ _ _ { w with drawn := w.drawn + 1 } (Below.refl w.heap.size w).drew H
  rw [htl, show c + 2 + (l.toArray.size - (c + 2)) = l.toArray.size by omega] at this
  exact this

section
variable {P : Program} {ops : Array Oper} {W : World}
theorem cr_nil {Q : Act → Prop} {a : Act} (h : Q a) : wpR P ops W Q [] a := h
theorem cr_step {Q : Act → Prop} {a : Act} {o : Oper} {rest : List Oper}
    (h : ∀ K : Act → Prop, (∀ a, wpR P ops W Q rest a → K a) → if Region.wanted o (yielded ops a.tmps) then (∃ v, (∀ u : Later W, o.quietAt P a (fun w' => w' = u.w) u.w v) ∧ K (a.put o.dst v)) else K (a.put o.dst undef)) : wpR P ops W Q (o :: rest) a := by
  have := h _ (fun _ h => h)
  unfold wpR YR
  split at this
  · rename_i hw
    obtain ⟨v, h1, h2⟩ := this
    exact ⟨v, .inl ⟨hw, h1⟩, h2⟩
  · rename_i hw
    exact ⟨_, .inr ⟨by simpa using hw, rfl⟩, this⟩
theorem cr_call {o : Oper} {a : Act} {w : World} {K0 : Act → World → Prop} (h : ∀ K : Act → World → Prop, (∀ a w, K0 a w → K a w) → EC P W o K a w) : EC P W o K0 a w := h _ (fun _ _ h => h)
theorem cr_made {o : Oper} {a : Act} {w : World} {K0 : Act → World → Prop} (h : ∀ K : Act → World → Prop, (∀ a w, K0 a w → K a w) → EB P o K a w) : EB P o K0 a w := h _ (fun _ _ h => h)
end
section
variable {P : Program} {ops : Array Oper} {md : Region.Mode} {W : World} {c : Nat}
/-- A call, whatever it answers; or a value, in the same world or with one block more. -/
def EF (P : Program) (W : World) (o : Oper) (K : Act → World → Prop) (a : Act) (w : World) : Prop :=
  match (execOp a.eval o).run P w with
  | .ok (.enter f args) w' => w' = w ∧ Calls P f args w (fun e w'' => ∃ v, e = .returned v ∧ Below W.heap.size W w'' ∧ K (a.put o.dst v) w'')
  | .ok (.value u) w' => (w' = w ∨ ∃ obj, w' = w.alloc obj) ∧ K (a.put o.dst u) w'
  | _ => False
theorem EF.mono {o : Oper} {K K' : Act → World → Prop} {a : Act} {w : World} (h : ∀ a w, K a w → K' a w) (hh : EF P W o K a w) : EF P W o K' a w := by
  unfold EF at *
  generalize (execOp a.eval o).run P w = r at *
  cases r with
  | ok n w' =>
    cases n <;> simp only at hh ⊢
    case enter f args => exact ⟨hh.1, hh.2.mono fun e w'' ⟨v, h1, h2, h3⟩ => ⟨v, h1, h2, h _ _ h3⟩⟩
    case value u => exact ⟨hh.1, h _ _ hh.2⟩
  | halt x w' => simp only at hh
def eOp (P : Program) (ops : Array Oper) (W : World) (c i : Nat) (K : Act → World → Prop) (a : Act) (w : World) : Prop :=
  match ops[i]? with
  | none => K a w
  | some o => if c ≤ i then Region.wanted o (yielded ops a.tmps) = true ∧ EF P W o K a w
    else ∃ v, YR P ops W o v a ∧ K (a.put o.dst v) w
theorem eOp_mono {i : Nat} {a : Act} {w : World} {K K' : Act → World → Prop} (h : ∀ a w, K a w → K' a w) (hh : eOp P ops W c i K a w) : eOp P ops W c i K' a w := by
  unfold eOp at *
  split
  · rename_i ho
    simp only [ho] at hh
    exact h _ _ hh
  · rename_i o ho
    simp only [ho] at hh
    by_cases e : c ≤ i
    · rw [if_pos e] at hh ⊢
      exact ⟨hh.1, hh.2.mono h⟩
    · rw [if_neg e] at hh ⊢
      obtain ⟨v, h1, h2⟩ := hh
      exact ⟨v, h1, h _ _ h2⟩
theorem eOp_put {j : Nat} {oi oj : Oper} {v : Value} {w : World} (hj : ops[j]? = some oj) (hap : oi.apart ops oj = true)
    (hsi : ∀ cs b, oi.op ≠ .select cs b) (hsj : ∀ cs b, oj.op ≠ .select cs b) {K : Act → World → Prop} {a : Act}
    (hy : YR P ops W oi v a) (h : eOp P ops W c j K (a.put oi.dst v) w) :
    eOp P ops W c j (fun a' w' => YR P ops W oi v a' ∧ K (a'.put oi.dst v) w') a w := by
  obtain ⟨h1, h2, h3⟩ := Oper.apart_spec hap
  have hs : ∀ u, YR P ops W oi v (a.put oj.dst u) := fun u => hy.of_same (execOp_put oi hsi a oj.dst u h3) (wanted_put oi a oj.dst u h3)
  have ee := execOp_put oj hsj a oi.dst v h1
  have ew := wanted_put (ops := ops) oj a oi.dst v h1
  unfold eOp at *
  simp only [hj] at *
  by_cases e : c ≤ j
  · rw [if_pos e] at h ⊢
    refine ⟨by rw [← ew]; exact h.1, ?_⟩
    have h5 := h.2
    unfold EF at *
    rw [ee] at h5
    generalize (execOp a.eval oj).run P w = r at *
    cases r with
    | ok n w' =>
      cases n <;> simp only at h5 ⊢
      case enter f args => exact ⟨h5.1, h5.2.mono fun e w'' ⟨u, k1, k2, k3⟩ => ⟨u, k1, k2, hs u, by rw [← Act.put_comm a v u h2]; exact k3⟩⟩
      case value u => exact ⟨h5.1, hs u, by rw [← Act.put_comm a v u h2]; exact h5.2⟩
    | halt x w' => simp only at h5
  · rw [if_neg e] at h ⊢
    obtain ⟨u, hu, hn⟩ := h
    exact ⟨u, hu.of_same ee.symm ew.symm, hs u, by rw [← Act.put_comm a v u h2]; exact hn⟩

def wpHeadE (P : Program) (md : Region.Mode) (ops : Array Oper) (W : World) (c n : Nat) (L : Array Bool → Act → World → Prop) : Nat → Array Bool → Act → World → Prop
  | 0, listed, a, w => L listed a w
  | f + 1, listed, a, w =>
    Region.ready md ops listed ≠ [] ∧ ∀ i ∈ Region.ready md ops listed, i < n ∧ eOp P ops W c i (wpHeadE P md ops W c n L f (listed.setIfInBounds i true)) a w

theorem wpOp_of_eOp {i : Nat} {a : Act} {K K' : Act → World → Prop} {Q' : Exit → Act → World → Prop} {w : World}
    (hC : Below W.heap.size W w) (h : ∀ a w', Below W.heap.size W w' → K a w' → K' a w') (hh : eOp P ops W c i K a w) : wpOp P ops Q' i K' a w := by
  unfold eOp at hh
  unfold wpOp
  split
  · rename_i ho
    simp only [ho] at hh
    exact h _ _ hC hh
  rename_i o ho
  simp only [ho] at hh
  by_cases e : c ≤ i
  · rw [if_pos e] at hh
    obtain ⟨hw, hc⟩ := hh
    simp only [hw, if_true]
    refine .inl ?_
    unfold Oper.wp
    unfold EF at hc
    generalize (execOp a.eval o).run P w = r at *
    cases r with
    | ok n w' =>
      cases n <;> simp only at hc <;> simp only [Oper.upon]
      case enter f args =>
        obtain ⟨rfl, hcc⟩ := hc
        exact hcc.mono fun e w'' ⟨v, he, hb, hk⟩ => by
          subst he
          exact h _ _ hb hk
      case value u =>
        obtain ⟨hw', hk⟩ := hc
        refine h _ _ ?_ hk
        rcases hw' with rfl | ⟨obj, rfl⟩
        · exact hC
        · exact hC.alloc hC.size obj
    | halt x w' => simp only at hc
  · rw [if_neg e] at hh
    obtain ⟨v, hy, hK⟩ := hh
    rcases hy with ⟨hw, hq⟩ | ⟨hw, rfl⟩
    · simp only [hw, if_true]
      refine .inl ?_
      refine Oper.wp_of_quiet (C := fun w' => w' = w) rfl (fun a w' hw' hk => h a w' (by rw [hw']; exact hC) (by rw [hw']; exact hk)) (o := o) (K := fun a => K a w) ⟨v, fun w2 hw2 => ?_, hK⟩
      rw [hw2]
      exact hq (Later.of hC)
    · simp only [hw, Bool.false_eq_true, if_false]
      exact h _ _ hC hK

theorem wpAny_of_headE {n g : Nat} {L : Array Bool → Act → World → Prop} {Q' : Exit → Act → World → Prop} (hL : ∀ listed a w, L listed a w → wpAny P md ops Q' g listed a w) :
    ∀ (f : Nat) (listed : Array Bool) (a : Act) (w : World), Below W.heap.size W w → wpHeadE P md ops W c n L f listed a w → wpAny P md ops Q' (f + g) listed a w
  | 0, listed, a, w, _, h => by rw [Nat.zero_add]; exact hL _ _ _ h
  | f + 1, listed, a, w, hw, h => by
    rw [show f + 1 + g = (f + g) + 1 by omega]
    exact ⟨fun h0 => absurd h0 h.1, fun i hi => wpOp_of_eOp hw (fun a' w' hw' h' => wpAny_of_headE hL f _ a' w' hw' h') (h.2 i hi).2⟩

theorem YR.eOp {i : Nat} {o : Oper} {v : Value} {a : Act} {w : World} (hi : ops[i]? = some o) (hic : i < c) (hy : YR P ops W o v a) {K : Act → World → Prop} (h : K (a.put o.dst v) w) : eOp P ops W c i K a w := by
  unfold Go.Proofs.Ytefmlbckbhlgdaa.eOp
  simp only [hi, if_neg (show ¬ c ≤ i by omega)]
  exact ⟨v, hy, h⟩

theorem wpHeadE_first {n i : Nat} {oi : Oper} {v : Value} {L : Array Bool → Act → World → Prop} (hi : ops[i]? = some oi) (hic : i < c) (hsel : ∀ (j : Nat) (o : Oper) cs b, ops[j]? = some o → o.op ≠ .select cs b)
    (hs : Region.sinkB md ops n = true) (hc : Region.chainB md ops n = true) (hn : n < ops.size) (hin : i < n)
    (hdone : ∀ listed a w, L listed a w → ∀ j ∈ Region.ready md ops listed, n ≤ j) :
    ∀ (f : Nat) (listed : Array Bool) (a : Act) (w : World), HeadInv md ops n listed →
      (∀ j oj, ops[j]? = some oj → j ≠ i → listed.getD j true = false → (∀ e ∈ oj.after, Region.binds md e = true → e.on ≠ i) → oi.apart ops oj = true) →
      i ∈ Region.ready md ops listed → YR P ops W oi v a →
      wpHeadE P md ops W c n L f (listed.setIfInBounds i true) (a.put oi.dst v) w → wpHeadE P md ops W c n L (f + 1) listed a w := by
  intro f
  induction f with
  | zero =>
    intro listed a w inv _ hr hy H
    have hun := (mem_ready.1 hr).1
    refine ⟨fun h => (by rw [h] at hr; cases hr), fun j hj => ?_⟩
    have hjn : j < n := by
      rcases Nat.lt_or_ge j n with h | h
      · exact h
      · exact absurd hj (tail_waits hs hc hn inv _ i rfl hin hun j h)
    refine ⟨hjn, ?_⟩
    by_cases hji : j = i
    · subst hji; exact hy.eOp hi hic H
    · have := hdone _ _ _ H j (ready_mono hj hji)
      omega
  | succ f ih =>
    intro listed a w inv hfree hr hy H
    have hun := (mem_ready.1 hr).1
    refine ⟨fun h => (by rw [h] at hr; cases hr), fun j hj => ?_⟩
    have hjn : j < n := by
      rcases Nat.lt_or_ge j n with h | h
      · exact h
      · exact absurd hj (tail_waits hs hc hn inv _ i rfl hin hun j h)
    refine ⟨hjn, ?_⟩
    by_cases hji : j = i
    · subst hji; exact hy.eOp hi hic H
    · have h1 := (H.2 j (ready_mono hj hji)).2
      obtain ⟨hjun, oj, hoj, hall⟩ := mem_ready.1 hj
      have hnot : ∀ e ∈ oj.after, Region.binds md e = true → e.on ≠ i := fun e he hb heq => by
        have h1 := hall e he hb
        rw [heq, getD_both hun] at h1
        cases h1
      have h2 := eOp_put hoj (hfree j oj hoj hji hjun hnot) (fun cs b => hsel i oi cs b hi) (fun cs b => hsel j oj cs b hoj) hy h1
      have hfree' : ∀ k ok, ops[k]? = some ok → k ≠ i → (listed.setIfInBounds j true).getD k true = false →
          (∀ e ∈ ok.after, Region.binds md e = true → e.on ≠ i) → oi.apart ops ok = true := fun k ok hk hki hun hno => by
        refine hfree k ok hk hki ?_ hno
        by_cases hjk : j = k
        · subst hjk; exact hjun
        · rw [getD_set_ne true hjk] at hun; exact hun
      refine eOp_mono (fun a' w' h3 => ih (listed.setIfInBounds j true) a' w' (inv.set hj hjn) hfree' (ready_mono hr (Ne.symm hji)) h3.1 ?_) h2
      rw [Array.setIfInBounds_comm _ _ hji]
      exact h3.2

/-- The effects, in their order. -/
def wpE (P : Program) (ops : Array Oper) (W : World) (Q : Act → World → Prop) : List Oper → Act → World → Prop
  | [], a, w => Q a w
  | o :: rest, a, w => Region.wanted o (yielded ops a.tmps) = true ∧ EF P W o (wpE P ops W Q rest) a w
def effB (md : Region.Mode) (ops : Array Oper) (c n : Nat) : Bool := (List.range n).all fun j => decide (j ≤ c) || Region.waitsFor md ops j (j - 1)
theorem chain_listed {n : Nat} {listed : Array Bool} (hE : effB md ops c n = true) (inv : HeadInv md ops n listed) {k : Nat} (hck : c ≤ k) : ∀ (d : Nat), k + d < n → listed.getD (k + d) false = true → listed.getD k false = true
  | 0, _, h => h
  | d + 1, hn, h => by
    have h1 := List.all_eq_true.1 hE (k + (d + 1)) (List.mem_range.2 hn)
    simp only [Bool.or_eq_true, decide_eq_true_eq] at h1
    rcases h1 with h1 | h1
    · omega
    · obtain ⟨o, ho, e, he, hb, hon⟩ := Region.waitsFor_spec h1
      have h2 := inv.closed _ o ho h e he hb
      rw [hon, show k + (d + 1) - 1 = k + d by omega] at h2
      exact chain_listed hE inv hck d (by omega) h2

theorem wpHeadE_eff {n g : Nat} {Lq : Act → World → Prop} (hs : Region.sinkB md ops n = true) (hc : Region.chainB md ops n = true) (hn : n < ops.size) (hE : effB md ops c n = true) :
    ∀ (l : List Oper) (k : Nat) (listed : Array Bool) (a : Act) (w : World), (∀ j, j < l.length → l[j]? = ops[k + j]?) → c ≤ k → k + l.length = n → HeadInv md ops n listed → (∀ j, j < k → listed.getD j true = true) →
    Region.lexHead md ops g l.length k listed = true → wpE P ops W Lq l a w →
    wpHeadE P md ops W c n (fun listed' a' w' => Region.seqB md ops g n listed' = true ∧ Lq a' w') l.length listed a w
  | [], k, listed, a, w, _, _, hk, _, _, hB, h => by
    have : k = n := by simpa using hk
    subst this
    exact ⟨by simpa [Region.lexHead] using hB, h⟩
  | o :: l, k, listed, a, w, hl, hck, hk, inv, hd, hB, h => by
    have h0 : ops[k]? = some o := by simpa using (hl 0 (by simp)).symm
    rw [List.length_cons, Region.lexHead, Bool.and_eq_true, Bool.and_eq_true] at hB
    obtain ⟨⟨hr, -⟩, hB'⟩ := hB
    have hkn : k < n := by simp only [List.length_cons] at hk; omega
    have hr' : k ∈ Region.ready md ops listed := by simpa using hr
    have hun := (mem_ready.1 hr').1
    refine ⟨fun h => (by rw [h] at hr'; cases hr'), fun i hi => ?_⟩
    have hik : i = k := only_ready hs hc hn hkn inv hd hun (fun j h1 h2 hj => by
      obtain ⟨_, oj, hoj, hall⟩ := mem_ready.1 hj
      have h3 := List.all_eq_true.1 hE j (List.mem_range.2 h2)
      simp only [Bool.or_eq_true, decide_eq_true_eq] at h3
      rcases h3 with h3 | h3
      · omega
      · obtain ⟨o', ho', e, he, hb, hon⟩ := Region.waitsFor_spec h3
        obtain rfl : o' = oj := Option.some.inj (ho'.symm.trans hoj)
        have h4 := hall e he hb
        rw [hon] at h4
        have h5 := chain_listed hE inv hck (j - 1 - k) (by omega) (by rw [show k + (j - 1 - k) = j - 1 by omega]; exact h4)
        rw [getD_both hun] at h5
        cases h5) i hi
    subst hik
    refine ⟨hkn, ?_⟩
    unfold eOp
    simp only [h0, if_pos hck]
    refine ⟨h.1, h.2.mono fun a' w' h' => ?_⟩
    exact wpHeadE_eff hs hc hn hE l (i + 1) _ _ _ (fun j hj => by have := hl (j + 1) (by simp; omega); simpa [Nat.add_assoc, Nat.add_comm 1 j] using this) (by omega) (by simp only [List.length_cons] at hk; omega) (inv.set hr' hkn) (fun j hj => by
      by_cases e : i = j
      · subst e; exact getD_set_same _ _
      · rw [getD_set_ne true e]; exact hd j (by omega)) hB' h'

theorem wpHeadE_lex {n g : Nat} {Lq : Act → World → Prop} (le : List Oper) (hle : ∀ j, j < le.length → le[j]? = ops[c + j]?) (hcn : c + le.length = n) (hsel : Region.noSelect ops = true) (hs : Region.sinkB md ops n = true) (hc : Region.chainB md ops n = true) (hn : n < ops.size) (hE : effB md ops c n = true) :
    ∀ (l : List Oper) (k : Nat) (listed : Array Bool) (a : Act) (w : World), (∀ j, j < l.length → l[j]? = ops[k + j]?) → k + l.length = c → HeadInv md ops n listed → (∀ j, j < k → listed.getD j true = true) →
    Region.lexHead md ops g (l.length + le.length) k listed = true → wpR P ops W (fun a => wpE P ops W Lq le a w) l a →
    wpHeadE P md ops W c n (fun listed' a' w' => Region.seqB md ops g n listed' = true ∧ Lq a' w') (l.length + le.length) listed a w
  | [], k, listed, a, w, _, hk, inv, hd, hB, h => by
    have : k = c := by simpa using hk
    subst this
    rw [List.length_nil, Nat.zero_add] at hB ⊢
    exact wpHeadE_eff hs hc hn hE le k listed a w hle (Nat.le_refl _) hcn inv hd hB h
  | o :: l, k, listed, a, w, hl, hk, inv, hd, hB, h => by
    have h0 : ops[k]? = some o := by simpa using (hl 0 (by simp)).symm
    rw [List.length_cons, show l.length + 1 + le.length = (l.length + le.length) + 1 by omega, Region.lexHead, Bool.and_eq_true, Bool.and_eq_true] at hB
    obtain ⟨⟨hr, hf⟩, hB'⟩ := hB
    have hkc : k < c := by simp only [List.length_cons] at hk; omega
    have hr' : k ∈ Region.ready md ops listed := by simpa using hr
    obtain ⟨v, hy, hK⟩ := h
    rw [List.length_cons, show l.length + 1 + le.length = (l.length + le.length) + 1 by omega]
    exact wpHeadE_first h0 hkc (Region.noSelect_spec hsel) hs hc hn (by omega) (fun listed' a' w' hL => seqB_ready hL.1) (l.length + le.length) listed a w inv (Region.free_spec h0 hf) hr' hy
      (wpHeadE_lex le hle hcn hsel hs hc hn hE l (k + 1) _ _ w (fun j hj => by have := hl (j + 1) (by simp; omega); simpa [Nat.add_assoc, Nat.add_comm 1 j] using this) (by simp only [List.length_cons] at hk; omega) (inv.set hr' (by omega)) (fun j hj => by
        by_cases e : k = j
        · subst e; exact getD_set_same _ _
        · rw [getD_set_ne true e]; exact hd j (by omega)) hB' hK)
end
/-- Reads ahead of 'c', effects from 'c' to 'n' (each waits for the one ahead of it), a tail in one order from 'n' on: one walk, in the order of the text. -/
theorem region_chain {P : Program} {id : Nat} {Q : Exit → Act → World → Prop} {a : Act} {w : World} {l : List Oper} (c n : Nat) (hm : P.follows .mixedOrders = true) (hB : (Region.lexTailB .any l.toArray n && (effB .any l.toArray c n && decide (c ≤ n))) = true)
    (h : wpR P l.toArray w (fun a => wpE P l.toArray w (fun a w => wpList P l.toArray Q (l.drop n) a w) ((l.take n).drop c) a { w with drawn := w.drawn + 1 }) (l.take c) a) : (Code.region id l.toArray true).wp P Q a w := by
  simp only [Region.lexTailB, Bool.and_eq_true, decide_eq_true_eq] at hB
  obtain ⟨⟨⟨⟨⟨hsel, hn⟩, hs⟩, hc⟩, hlex⟩, hE, hcn⟩ := hB
  have hn' : n < l.length := by simpa using hn
  have htl : (l.take c).length = c := by simp; omega
  have hel : ((l.take n).drop c).length = n - c := by simp; omega
  have hdl : (l.drop n).length = l.toArray.size - n := by simp
  have inv0 : HeadInv .any l.toArray n (Array.replicate l.toArray.size false) :=
    ⟨by simp, fun j oj _ hl => (by rw [getD_replicate_false] at hl; cases hl), fun t _ ht => getD_in (by simpa using ht) (getD_replicate_false _ _)⟩
  have hsum : (l.take c).length + ((l.take n).drop c).length = n := by rw [htl, hel]; omega
  have H := wpHeadE_lex (md := .any) (g := l.toArray.size - n) (c := c) (n := n) (Lq := fun a' w' => wpList P l.toArray Q (l.drop n) a' w') ((l.take n).drop c) (fun j hj => by
    rw [hel] at hj
    rw [List.getElem?_drop, List.getElem?_take, if_pos (by omega)]
    simp) (by rw [hel]; omega) hsel hs hc hn hE (l.take c) 0 _ a { w with drawn := w.drawn + 1 } (fun j hj => by
    have hj' : j < c := by rw [htl] at hj; exact hj
    simp [hj']) (by simpa using htl) inv0 (fun j hj => absurd hj (Nat.not_lt_zero _)) (by rw [hsum]; exact hlex) h
  refine wp_region_any hm ?_
  have := wpAny_of_headE (Q' := Q) (c := c) (g := l.toArray.size - n) (fun listed a' w' hL => by
    have := wpAny_of_seq (md := .any) (Q' := Q) (l.drop n) n listed a' w' (fun j => by simp [List.getElem?_drop]) (by rw [hdl]; exact hL.1) hL.2
    rwa [hdl] at this) _ _ _ { w with drawn := w.drawn + 1 } (Below.refl w.heap.size w).drew H
  rw [hsum, show n + (l.toArray.size - n) = l.toArray.size by omega] at this
  exact this
section
variable {P : Program} {ops : Array Oper} {W : World}
theorem ef_step {o : Oper} {rest : List Oper} {a : Act} {w : World} {Q : Act → World → Prop} (hg : o.guard = Option.none) (h : ∀ K : Act → World → Prop, (∀ a w, wpE P ops W Q rest a w → K a w) → EF P W o K a w) : wpE P ops W Q (o :: rest) a w :=
  ⟨by simp [Region.wanted, hg], h _ (fun _ _ h => h)⟩
theorem ef_nil {a : Act} {w : World} {Q : Act → World → Prop} (h : Q a w) : wpE P ops W Q [] a w := h
end
end Go.Proofs.Ytefmlbckbhlgdaa
namespace Go.Proofs.Ytefmlbckbhlgdaa
open Go.RowKit
set_option maxRecDepth 100000
/-- The item as it is handed back. -/
def ItemAns (x : It) (w : World) (v : Value) (w' : World) : Prop :=
  ∃ l b p n c ks, v = .agg #[.bool l, .string (mkS b), .slice p n c] ∧ x = .mk l b ks ∧ Below w.heap.size w w' ∧ RowT encIt (fun b => w.heap.size ≤ b) w' (.slice p n c) (itTs ks)
theorem itemAns_leaf {w w' : World} {l : Bool} {b : List UInt8} (hb : Below w.heap.size w w') : ItemAns (.mk l b []) w (.agg #[.bool l, .string (mkS b), .slice none 0 0]) w' :=
  ⟨l, b, none, 0, 0, [], rfl, rfl, hb, RowT.nil⟩
theorem leaf_item (c : UInt8) (hc : leafK c = true) {fn : Nat} {fb : List UInt8} {fk : List Fd} {x : It} (h : itemK (.mk c []) (.mk (fn, fb) fk) = some x) : x = if c = 110 then .mk false (dig fn) [] else .mk false fb [] := by
  have h42 : c ≠ 42 := by rintro rfl; revert hc; decide
  have h40 : c ≠ 40 := by rintro rfl; revert hc; decide
  rw [itemK] at h
  by_cases h1 : c = 110
  · rw [if_pos h1] at h ⊢
    split at h
    · exact (Option.some.inj h).symm
    · cases h
  · rw [if_neg h1] at h ⊢
    by_cases h2 : c = 98
    · rw [if_pos h2] at h
      split at h
      · exact (Option.some.inj h).symm
      · cases h
    · rw [if_neg h2, if_neg h42, if_neg h40] at h
      split at h
      · exact (Option.some.inj h).symm
      · cases h

set_option maxHeartbeats 4000000 in
theorem ritem_leaf (s : ByteArray) (c : UInt8) (hs0 : (bl s)[0]? = some c) (hc : leafK c = true) (hs : s.size ≤ 1000) (fn : Nat) (hfn : fn < 18446744073709551616) (fb : List UInt8) (fk : List Fd) (s' : Sl) (x : It) (hx : itemK (.mk c []) (.mk (fn, fb) fk) = some x) (w : World) :
    Calls Try.prog 110 #[.string s, fV (fn, fb) s'] w fun e w' => ∃ v, e = .returned v ∧ ItemAns x w v w' := by
  have HX := Lib.hid (leaf_item c hc hx)
  have KN := Lib.hid (fun W => rnumber_any fn W hfn)
  obtain ⟨hi, hg⟩ := at_byte hs0
  obtain ⟨pf, nf, cf⟩ := s'
  clear hs0 hx hfn
  simp only [fV, slV] at *
  have R3 := Lib.hid ((RowAt.new w #[.int .u64 (fn : Int), .string (mkS fb), .slice pf nf cf] 64).alloc (.cells #[.bool false, .string ⟨#[]⟩, .slice none 0 0] 98))
  have R4 := Lib.hid (RowAt.new' (w.alloc (.cells #[.int .u64 (fn : Int), .string (mkS fb), .slice pf nf cf] 64)) #[.bool false, .string ⟨#[]⟩, .slice none 0 0] 98 (k := w.heap.size + 1) (by simp))
  have HB := Lib.hid (bel2 w (.cells #[.int .u64 (fn : Int), .string (mkS fb), .slice pf nf cf] 64) (.cells #[.bool false, .string ⟨#[]⟩, .slice none 0 0] 98))
  generalize dig fn = D at *
  by_cases h110 : c = 110
  · subst h110
    replace hg : (s[0]'hi).toNat = _ := congrArg UInt8.toNat hg
    simp only [UInt8.reduceToNat] at hg
    rw [if_pos rfl] at HX
    have hi0 : (0 : Int) < s.size := by omega
    clear hc
    go_enter Try.func110, Try.ntmps110
    go_upto_region 1 with (fail)
    generalize (w.alloc (.cells #[.int .u64 (fn : Int), .string (mkS fb), .slice pf nf cf] 64)).alloc (.cells #[.bool false, .string ⟨#[]⟩, .slice none 0 0] 98) = W at *
    obtain ⟨y0, y1, y2, yf0, yf1, yf2⟩ := R3.out.c3
    go_wp2_with (go_at_call 153; refine (KN.out _).mono ?_; rintro e w1 ⟨rfl, hb⟩; replace R4 := Lib.hid (R4.out.belowS hb); replace HB := Lib.hid (HB.out.trans (hb.mono HB.out.size)); clear hb y0 y1 y2 yf0 yf1 yf2; have z := R4.out.c3; obtain ⟨z0, z1, z2, zf0, zf1, zf2⟩ := z)
    obtain ⟨r, bb⟩ := box3 R4.out HB.out (Nat.le_succ _) (.bool false) (.string (mkS D)) (.slice none 0 0)
    obtain ⟨e0, e1, e2, _⟩ := r.c3
    refine bodyPost_ret (v := .agg #[.bool false, .string (mkS D), .slice none 0 0]) (by simp [results, Try.results110, go_sem, e0, e1, e2]) rfl ?_
    exact ⟨_, rfl, by rw [HX.out]; exact itemAns_leaf bb⟩
  · rw [if_neg h110] at HX
    have hi0 : (0 : Int) < s.size := by omega
    rcases leafK_cases hc with rfl | rfl | rfl | rfl | rfl
    · exact absurd rfl h110
    all_goals
      replace hg : (s[0]'hi).toNat = _ := congrArg UInt8.toNat hg
      simp only [UInt8.reduceToNat] at hg
      clear hc h110
      go_enter Try.func110, Try.ntmps110
      go_upto_region 1 with (fail)
      generalize (w.alloc (.cells #[.int .u64 (fn : Int), .string (mkS fb), .slice pf nf cf] 64)).alloc (.cells #[.bool false, .string ⟨#[]⟩, .slice none 0 0] 98) = W at *
      obtain ⟨y0, y1, y2, yf0, yf1, yf2⟩ := R3.out.c3
      go_upto_region 4 with (fail)
      clear y0 y1 y2 yf0 yf1 yf2
      (replace R3 := Lib.hid (R3.out.alloc (.cells #[.bool true, .string ⟨#[]⟩, .slice none 0 0] 98)); replace R4 := Lib.hid (R4.out.alloc (.cells #[.bool true, .string ⟨#[]⟩, .slice none 0 0] 98)); replace HB := Lib.hid (HB.out.alloc HB.out.size (.cells #[.bool true, .string ⟨#[]⟩, .slice none 0 0] 98)))
      generalize W.alloc (.cells #[.bool true, .string ⟨#[]⟩, .slice none 0 0] 98) = W2 at *
      obtain ⟨y0, y1, y2, yf0, yf1, yf2⟩ := R3.out.c3
      have z := R4.out.c3
      obtain ⟨z0, z1, z2, zf0, zf1, zf2⟩ := z
      go_wp2
      obtain ⟨r, bb⟩ := box3 R4.out HB.out (Nat.le_succ _) (.bool false) (.string (mkS fb)) (.slice none 0 0)
      obtain ⟨e0, e1, e2, _⟩ := r.c3
      refine bodyPost_ret (v := .agg #[.bool false, .string (mkS fb), .slice none 0 0]) (by simp [results, Try.results110, go_sem, e0, e1, e2]) rfl ?_
      exact ⟨_, rfl, by rw [HX.out]; exact itemAns_leaf bb⟩
end Go.Proofs.Ytefmlbckbhlgdaa
namespace Go.Proofs.Ytefmlbckbhlgdaa
open Go.RowKit
set_option maxRecDepth 100000
theorem ItemAns.drew {x : It} {w w' : World} {v : Value} (h : ItemAns x { w with drawn := w.drawn + 1 } v w') : ItemAns x w v w' := by
  obtain ⟨l, b, p, n, c, ks, h1, h2, h3, h4⟩ := h
  exact ⟨l, b, p, n, c, ks, h1, h2, (Below.refl w.heap.size w).drew.trans h3, h4⟩
theorem ItemAns.below {x : It} {w w' : World} {v : Value} (h : ItemAns x w v w') : Below w.heap.size w w' := by
  obtain ⟨l, b, p, n, c, ks, h1, h2, h3, h4⟩ := h
  exact h3
theorem mapM_get {α β : Type} {g : α → Option β} : ∀ {l : List α} {xs : List β}, l.mapM g = some xs → xs.length = l.length ∧ ∀ (i : Nat) (f : α), l[i]? = some f → ∃ y, xs[i]? = some y ∧ g f = some y
  | [], xs, h => by simp at h; subst h; exact ⟨rfl, fun i f h => by simp at h⟩
  | a :: l, xs, h => by
    rw [List.mapM_cons] at h
    cases ha : g a with
    | none => rw [ha] at h; simp at h
    | some y =>
      cases hl : l.mapM g with
      | none => rw [ha, hl] at h; simp at h
      | some ys =>
        rw [ha, hl] at h
        simp at h
        subst h
        obtain ⟨h1, h2⟩ := mapM_get hl
        refine ⟨by simp [h1], fun i f hf => ?_⟩
        cases i with
        | zero => simp at hf; subst hf; exact ⟨y, rfl, ha⟩
        | succ i => simpa using h2 i f (by simpa using hf)
theorem star_item (c : UInt8) {fn : Nat} {fb : List UInt8} {fk : List Fd} {x : It} (h : itemK (.mk 42 [.mk c []]) (.mk (fn, fb) fk) = some x) : ∃ xs, x = .mk true [] xs ∧ fk.length ≤ 40 ∧ xs.length = fk.length ∧ ∀ (i : Nat) (f : Fd), fk[i]? = some f → ∃ y, xs[i]? = some y ∧ itemK (.mk c []) f = some y := by
  rw [itemK, if_neg (by decide), if_neg (by decide), if_pos rfl, starI] at h
  split at h
  · rename_i h1
    cases hm : fk.mapM (itemK (.mk c [])) with
    | none => rw [hm] at h; cases h
    | some xs =>
      rw [hm] at h
      exact ⟨xs, (Option.some.inj h).symm, h1.2.2, mapM_get hm⟩
  · cases h

set_option maxHeartbeats 4000000 in
theorem ritem_star (s : ByteArray) (c : UInt8) (h0 : (bl s)[0]? = some 42) (h1 : (bl s)[1]? = some c) (hc : leafK c = true) (hs : s.size ≤ 1000) (fn : Nat) (fb : List UInt8) (fk : List Fd) (hok : fsOk fk) (s' : Sl) (x : It) (hx : itemK (.mk 42 [.mk c []]) (.mk (fn, fb) fk) = some x) (w : World) (hF : FieldAt w (.mk (fn, fb) fk) s') :
    Calls Try.prog 110 #[.string s, fV (fn, fb) s'] w fun e w' => ∃ v, e = .returned v ∧ ItemAns x w v w' := by
  obtain ⟨xs, rfl, hle, hlen, hget⟩ := star_item c hx
  have K1 : (bl (s.extract 1 s.size))[0]? = some c := by rw [bl_extract, ← bl_length, List.take_length, List.getElem?_drop]; simpa using h1
  have KL : ∀ (i : Nat) (f : Fd) (sx : Sl) (y : It) (W : World), fk[i]? = some f → xs[i]? = some y → Calls Try.prog 110 #[.string (s.extract 1 s.size), fV f.val sx] W fun e w' => ∃ v, e = .returned v ∧ ItemAns y W v w' := fun i f sx y W hf hy => by
    obtain ⟨y', hy', hi⟩ := hget i f hf
    have hfo := fsOk_mem hok f (List.mem_of_getElem? hf)
    obtain ⟨⟨xn, xb⟩, xk⟩ := f
    rw [hy] at hy'
    obtain rfl := Option.some.inj hy'
    rw [fOk] at hfo
    exact ritem_leaf (s.extract 1 s.size) c K1 hc (by rw [ByteArray.size_extract]; omega) xn hfo.1 xb xk sx _ hi W
  have hl1 : 1 ≤ s.size := by have := (at_byte h0).1; omega
  obtain ⟨hi, hg⟩ := at_byte h0
  clear h0 h1 K1 hc hget hx hok
  replace KL := Lib.hid KL
  obtain ⟨pf, nf, cf⟩ := s'
  obtain ⟨hnf, f1, f2⟩ := RowT.sane hF
  replace hnf : nf = fk.length := hnf
  subst hnf
  unfold maxLen at f2
  have HF := Lib.hid hF
  simp only [fV, slV] at *
  have R3 := Lib.hid ((RowAt.new w #[.int .u64 (fn : Int), .string (mkS fb), .slice pf fk.length cf] 64).alloc (.cells #[.bool false, .string ⟨#[]⟩, .slice none 0 0] 98))
  have R4 := Lib.hid (RowAt.new' (w.alloc (.cells #[.int .u64 (fn : Int), .string (mkS fb), .slice pf fk.length cf] 64)) #[.bool false, .string ⟨#[]⟩, .slice none 0 0] 98 (k := w.heap.size + 1) (by simp))
  have HWS : Hid (((w.alloc (.cells #[.int .u64 (fn : Int), .string (mkS fb), .slice pf fk.length cf] 64)).alloc (.cells #[.bool false, .string ⟨#[]⟩, .slice none 0 0] 98)).heap.size = w.heap.size + 2) := Lib.hid (by simp)
  have HB := Lib.hid (bel2 w (.cells #[.int .u64 (fn : Int), .string (mkS fb), .slice pf fk.length cf] 64) (.cells #[.bool false, .string ⟨#[]⟩, .slice none 0 0] 98))
  have hi0 : (0 : Int) < s.size := by omega
  have hi1 : (1 : Int) ≤ s.size := by omega
  have HLE := Lib.hid hle
  have HLEN := Lib.hid hlen
  clear hF hle hlen
  replace hg : (s[0]'hi).toNat = _ := congrArg UInt8.toNat hg
  simp only [UInt8.reduceToNat] at hg
  generalize hs1 : s.extract 1 s.size = s1 at *
  go_enter Try.func110, Try.ntmps110
  go_upto_region 1 with (fail)
  generalize (w.alloc (.cells #[.int .u64 (fn : Int), .string (mkS fb), .slice pf fk.length cf] 64)).alloc (.cells #[.bool false, .string ⟨#[]⟩, .slice none 0 0] 98) = W at *
  go_upto_region 4 with (fail)
  have R6 := Lib.hid (RowAt.new W #[.bool true, .string ⟨#[]⟩, .slice none 0 0] 98)
  have HZ : Hid (w.heap.size + 2 ≤ W.heap.size) := Lib.hid (by have := HWS.out; omega)
  (replace R3 := Lib.hid (R3.out.alloc (.cells #[.bool true, .string ⟨#[]⟩, .slice none 0 0] 98)); replace R4 := Lib.hid (R4.out.alloc (.cells #[.bool true, .string ⟨#[]⟩, .slice none 0 0] 98)); replace HB := Lib.hid (HB.out.alloc HB.out.size (.cells #[.bool true, .string ⟨#[]⟩, .slice none 0 0] 98)))
  clear HWS
  generalize W.alloc (.cells #[.bool true, .string ⟨#[]⟩, .slice none 0 0] 98) = W3 at *
  generalize W.heap.size = k6 at *
  have O0 : Hid (OwnT encIt 98 (fun b => k6 < b) W3 (k6 + 1) (.slice none 0 0) (itTs (xs.take 0))) := Lib.hid (OwnT.nil _ _)
  obtain ⟨y0, y1, y2, yf0, yf1, yf2⟩ := R3.out.c3
  go_upto_region 13 with (fail)
  clear y0 y1 y2 yf0 yf1 yf2
  go_loopw [48] (fun s48 wr => ∃ (i : Nat) (po : Option Addr) (co : Nat), i ≤ fk.length ∧ s48 = .int .i64 i ∧ Hid (RowAt wr k6 #[.bool true, .string ⟨#[]⟩, .slice po i co] 98) ∧ Hid (OwnT encIt 98 (fun b => k6 < b) wr (k6 + 1) (.slice po i co) (itTs (xs.take i))) ∧ Hid (RowAt wr (w.heap.size + 1) #[.bool false, .string ⟨#[]⟩, .slice none 0 0] 98) ∧ Hid (Below w.heap.size w wr)) (fun s _ => fk.length - (intOf s).toNat)
  case atStart => exact ⟨0, none, 0, Nat.zero_le _, rfl, R6, O0, R4, HB⟩
  case round =>
    clear R6 O0 R4 HB R3
    obtain ⟨i, po, co, hi, rfl, h6, ho, h4, hb⟩ := hrel
    have R6 := Lib.hid h6.out
    have O := Lib.hid ho.out
    have R4 := Lib.hid h4.out
    have HB := Lib.hid hb.out
    clear h6 ho h4 hb
    by_cases hlt : i < fk.length
    · obtain ⟨f, hf⟩ : ∃ f, fk[i]? = some f := ⟨_, List.getElem?_eq_getElem hlt⟩
      obtain ⟨y, hy⟩ : ∃ y, xs[i]? = some y := ⟨_, List.getElem?_eq_getElem (by have := HLEN.out; omega)⟩
      obtain ⟨adf, sf, rfl, hfc, hfk⟩ := RowT.at2 (HF.out.below HB.out (Nat.le_refl _)) hf
      have KC := Lib.hid (fun W => KL.out i f sf y W hf hy)
      have HTK : Hid (itTs (xs.take i) ++ [itT y] = itTs (xs.take (i + 1))) := Lib.hid (by rw [List.take_add_one, hy, itTs_map, itTs_map]; simp)
      have HTL : Hid ((itTs (xs.take i)).length = i) := Lib.hid (by rw [itTs_map]; simp; have := HLEN.out; omega)
      obtain ⟨p3, n3, c3⟩ := sf
      obtain ⟨⟨xn, xb⟩, xk⟩ := f
      have r0 := hfc 0 _ rfl
      have r1 := hfc 1 _ rfl
      have r2 := hfc 2 _ rfl
      replace r0 : wr.cell? (adf.add (i * 3)) = some (.int .u64 (xn : Int)) := r0
      replace r1 : wr.cell? ⟨(adf.add (i * 3)).block, (adf.add (i * 3)).off + 1, none⟩ = some (.string (mkS xb)) := r1
      replace r2 : wr.cell? ⟨(adf.add (i * 3)).block, (adf.add (i * 3)).off + 2, none⟩ = some (.slice p3 n3 c3) := r2
      clear hfc hf hfk hy
      go_upto_region 15 with (fail)
      have R8 := Lib.hid (RowAt.new wr #[.int .u64 (xn : Int), .string (mkS xb), .slice p3 n3 c3] 64)
      replace O := Lib.hid (O.out.below (bel1 wr (.cells #[.int .u64 (xn : Int), .string (mkS xb), .slice p3 n3 c3] 64)) (Nat.le_refl _))
      have HK8 : Hid (k6 < wr.heap.size) := Lib.hid R6.out.lt
      (replace R4 := Lib.hid (R4.out.alloc (.cells #[.int .u64 (xn : Int), .string (mkS xb), .slice p3 n3 c3] 64)); replace R6 := Lib.hid (R6.out.alloc (.cells #[.int .u64 (xn : Int), .string (mkS xb), .slice p3 n3 c3] 64)); replace HB := Lib.hid (HB.out.alloc HB.out.size (.cells #[.int .u64 (xn : Int), .string (mkS xb), .slice p3 n3 c3] 64)))
      clear r0 r1 r2
      have HS9 : Hid (wr.heap.size < (wr.alloc (.cells #[.int .u64 (xn : Int), .string (mkS xb), .slice p3 n3 c3] 64)).heap.size) := Lib.hid (by simp)
      generalize wr.alloc (.cells #[.int .u64 (xn : Int), .string (mkS xb), .slice p3 n3 c3] 64) = wa at *
      generalize wr.heap.size = k9 at *
      obtain ⟨z0, z1, z2, zf0, zf1, zf2⟩ := R8.out.lw3
      have q := R6.out.lw3
      obtain ⟨q0, q1, q2, qf0, qf1, qf2⟩ := q
      have KC2 : Hid (Calls Try.prog 110 #[.string s1, .agg #[.int .u64 (xn : Int), .string (mkS xb), .slice p3 n3 c3]] { wa with drawn := wa.drawn + 1 } fun e w' => ∃ v, e = .returned v ∧ ItemAns y wa v w') := Lib.hid ((KC.out _).mono fun e w' ⟨v, h1, h2⟩ => ⟨v, h1, ItemAns.drew h2⟩)
      clear KC
      (refine region_call_tail 5 mix ?hB ⟨_, _, rfl, rfl, ?_⟩; case hB => kernel_rfl); (simp only [List.take_succ_cons, List.take_zero, List.drop_succ_cons, List.drop_zero]); (iterate 5 (with_reducible refine cr_step ?_; intro K hK; go_simp; (with_reducible refine hK _ ?_); clear hK K)); (with_reducible refine cr_nil ?_); (refine ⟨rfl, ?_⟩); (with_reducible refine cr_call ?_); (intro K hK; unfold EC; go_simp; (refine KC2.out.mono ?_; rintro e w6 ⟨v, rfl, l, b, p, n, c', ks', rfl, rfl, hb, hrow⟩; refine ⟨_, rfl, hb, hK _ _ ?_⟩; clear hK K)); (refine ⟨rfl, ?_⟩); (with_reducible refine cr_made ?_); (intro K hK; unfold EB; go_simp; refine ⟨⟨_, rfl⟩, hK _ _ ?_⟩; clear hK K)
      have HS6 := Lib.hid hb.size
      have HY := Lib.hid ((OwnT.fresh (t := itT (.mk l b ks')) (s := (p, n, c')) O.out (Nat.le_refl _) (fun b hb => Nat.lt_of_lt_of_le (by have := HK8.out; have := HS9.out; omega) hb) (show RowT encIt (fun b => wa.heap.size ≤ b) w6 (.slice p n c') (itTs ks') from hrow)).move (bel1 w6 (.cells #[.bool l, .string (mkS b), .slice p n c'] 98)) (Nat.le_refl _))
      clear hrow z0 z1 z2 zf0 zf1 zf2 q0 q1 q2 qf0 qf1 qf2 KC2
      (replace R4 := Lib.hid (R4.out.belowS hb); replace R6 := Lib.hid (R6.out.belowS hb); replace O := Lib.hid (O.out.below hb (Nat.le_refl _)); replace HB := Lib.hid (HB.out.trans (hb.mono HB.out.size)); clear hb)
      have R11 := Lib.hid (RowAt.new w6 #[.bool l, .string (mkS b), .slice p n c'] 98)
      replace O := Lib.hid (O.out.below (bel1 w6 (.cells #[.bool l, .string (mkS b), .slice p n c'] 98)) (Nat.le_refl _))
      have HSZ : Hid (k6 + 1 ≤ (w6.alloc (.cells #[.bool l, .string (mkS b), .slice p n c'] 98)).heap.size) := Lib.hid (by have := R6.out.lt; simp; omega)
      (replace R4 := Lib.hid (R4.out.alloc (.cells #[.bool l, .string (mkS b), .slice p n c'] 98)); replace R6 := Lib.hid (R6.out.alloc (.cells #[.bool l, .string (mkS b), .slice p n c'] 98)); replace HB := Lib.hid (HB.out.alloc HB.out.size (.cells #[.bool l, .string (mkS b), .slice p n c'] 98)))
      generalize w6.alloc (.cells #[.bool l, .string (mkS b), .slice p n c'] 98) = w7 at *
      generalize w6.heap.size = k10 at *
      go_wp2_with (at_builtin; refine wpList_append_tree (E := encIt) (A := fun b => k6 < b) Try.underlying93 info_it rfl (by omega) rfl _ _ rfl (k6 + 1) _ (itTs (xs.take i)) rfl O.out ⟨k10, 0, none⟩ (itT (.mk l b ks')) ((l, b), p, n, c') rfl (lit_cells R11.out rfl) HY.out (by have := HTL.out; have := HLE.out; omega) HSZ.out ?_)
      intro v' w' ho hg hbb hz
      obtain ⟨po', co', rfl, _, _⟩ := OwnT.shape ho
      have HN : (itTs (xs.take i) ++ [itT (.mk l b ks')]).length = i + 1 := by rw [List.length_append, HTL.out]; rfl
      rw [HN]
      rw [HN, HTK.out] at ho
      have hbk := hbb _ (Below.refl _ _)
      replace R6 := Lib.hid (R6.out.below hbk (Nat.lt_succ_self _))
      replace R4 := Lib.hid (R4.out.below hbk (by have := HZ.out; omega))
      replace HB := Lib.hid (HB.out.trans (hbk.mono (by have := HZ.out; omega)))
      replace O := Lib.hid ho
      clear ho hg hbb hz hbk HN HY R11 R8 HSZ
      have q := R6.out.c3
      obtain ⟨q0, q1, q2, qf0, qf1, qf2⟩ := q
      replace R6 := Lib.hid (R6.out.set 2 (.slice po' (i + 1) co') rfl)
      replace O := Lib.hid (O.out.setLow ⟨k6, 2, none⟩ (.slice po' (i + 1) co') (Nat.lt_succ_self _) (fun b hb => by simp only; omega))
      replace R4 := Lib.hid (R4.out.other ⟨k6, 2, none⟩ (.slice po' (i + 1) co') (by have := HZ.out; simp only; omega))
      replace HB := Lib.hid (HB.out.setCell (p := ⟨k6, 2, none⟩) (by have := HZ.out; simp only; omega) (.slice po' (i + 1) co'))
      go_wp2
      exact ⟨⟨i + 1, po', co', by omega, by simp, R6, O, R4, HB⟩, by simp [intOf]; omega⟩
    · obtain rfl : i = fk.length := by omega
      have HI := Lib.hid (show RowT encIt (fun b => k6 < b) wr (.slice po fk.length co) (itTs xs) from by
        have := O.out.row (fun b hb => hb)
        rwa [List.take_of_length_le (by have := HLEN.out; omega)] at this)
      clear O
      have q := R6.out.c3
      obtain ⟨q0, q1, q2, qf0, qf1, qf2⟩ := q
      have z := R4.out.c3
      obtain ⟨z0, z1, z2, zf0, zf1, zf2⟩ := z
      go_wp2
      obtain ⟨r, bb⟩ := box3 R4.out HB.out (Nat.le_succ _) (.bool true) (.string ⟨#[]⟩) (.slice po fk.length co)
      obtain ⟨e0, e1, e2, _⟩ := r.c3
      refine bodyPost_ret (v := .agg #[.bool true, .string ⟨#[]⟩, .slice po fk.length co]) (by simp [results, Try.results110, go_sem, e0, e1, e2]) rfl ?_
      exact ⟨_, rfl, true, [], po, fk.length, co, xs, rfl, rfl, bb, HI.out.keep (fun a v ha hc => by rw [World.cell?_setCell_other, World.cell?_setCell_other, World.cell?_setCell_other]; exact hc; all_goals (intro e; subst e; have := HZ.out; simp only at ha; omega)) (fun b hb => by have := HZ.out; omega)⟩
end Go.Proofs.Ytefmlbckbhlgdaa
namespace Go.Proofs.Ytefmlbckbhlgdaa
open Go.RowKit
set_option maxRecDepth 100000
theorem rowI_get : ∀ {ks : List Kd} {l : List Fd} {xs : List It}, rowI ks l = some xs → xs.length = l.length ∧ ks.length = l.length ∧ ∀ (i : Nat) (k : Kd) (f : Fd), ks[i]? = some k → l[i]? = some f → ∃ y, xs[i]? = some y ∧ itemK k f = some y
  | [], [], xs, h => by rw [rowI] at h; obtain rfl := Option.some.inj h; exact ⟨rfl, rfl, fun i k f h => by simp at h⟩
  | [], _ :: _, _, h => by rw [rowI] at h; cases h
  | _ :: _, [], _, h => by rw [rowI] at h; cases h
  | k :: ks, f :: l, xs, h => by
    rw [rowI] at h
    cases hi : itemK k f with
    | none => rw [hi] at h; cases h
    | some y =>
      cases hr : rowI ks l with
      | none => rw [hi, hr] at h; cases h
      | some ys =>
        rw [hi, hr] at h
        obtain rfl := Option.some.inj h
        obtain ⟨h1, h2, h3⟩ := rowI_get hr
        refine ⟨by simp [h1], by simp [h2], fun i k' f' hk hf => ?_⟩
        cases i with
        | zero => simp at hk hf; subst hk hf; exact ⟨y, rfl, hi⟩
        | succ i => simpa using h3 i k' f' (by simpa using hk) (by simpa using hf)

theorem ritem_tok (t : List UInt8) (ht : tokOk t) (f : Fd) (hok : fOk f) (s' : Sl) (x : It) (hx : itemK (tokK t) f = some x) (w : World) (hF : FieldAt w f s') :
    Calls Try.prog 110 #[.string (mkS t), fV f.val s'] w fun e w' => ∃ v, e = .returned v ∧ ItemAns x w v w' := by
  obtain ⟨⟨fn, fb⟩, fk⟩ := f
  rw [fOk] at hok
  obtain ⟨c, hc, rfl | rfl⟩ := ht
  · exact ritem_leaf (mkS [c]) c (by rw [bl_mk]; rfl) hc (by rw [mkS_size]; simp) fn hok.1 fb fk s' x hx w
  · exact ritem_star (mkS [42, c]) c (by rw [bl_mk]; rfl) (by rw [bl_mk]; rfl) hc (by rw [mkS_size]; simp) fn fb fk hok.2 s' x hx w hF

theorem writeF_flat {s : ByteArray} {toks : List (List UInt8)} (h : FlatF s toks) (hk : kindsL (bl s) = some (toks.map tokK)) (l : List Fd) : writeF (bl s) l = match rowI (toks.map tokK) l with
    | none => ([], 1)
    | some xs => (It.mk true [] xs).enc := by
  unfold writeF
  have e : itemsT (.mk 40 (toks.map tokK)) l = (rowI (toks.map tokK) l).map (.mk true []) := by rw [itemsT, if_neg (by decide)]
  simp only [hk, e]
  cases hr : rowI (toks.map tokK) l with
  | none => simp
  | some xs =>
    rw [if_pos (h.few l (by rw [hr]; rfl))]
    rfl

set_option maxHeartbeats 4000000 in
theorem rfwrite_any (s : ByteArray) (toks : List (List UInt8)) (h : FlatF s toks) (hk : kindsL (bl s) = some (toks.map tokK)) (v : Value) (l : List Fd) (w : World) (hl : fsOk l) (hv : RowT encFd (fun _ => True) w v l) :
    Calls Try.prog 62 #[.string s, v] w fun e w' => e = .returned (.tuple #[.string (mkS (writeF (bl s) l).1), .int .i64 (writeF (bl s) l).2]) ∧ Below w.heap.size w w' := by
  have KK := Lib.hid (rkinds_any s toks h.eq h.ok h.size w)
  have KF := Lib.hid (fun W (hw : Below w.heap.size w W) => rfits_any s toks h v l W (hv.below hw (Nat.le_refl _)))
  have HW := writeF_flat h hk l
  cases hr : rowI (toks.map tokK) l with
  | none =>
    rw [hr] at KF HW
    replace HW := Lib.hid HW
    generalize writeF (bl s) l = res at *
    clear h hk hl hv hr
    go_enter Try.func62, Try.ntmps62
    go_wp2_with (first
      | (go_at_call 59; refine KK.out.mono ?_; rintro e w1 ⟨kv, rfl, ho, hb⟩; have HB := Lib.hid hb; clear hb ho)
      | (go_at_call 109; refine (KF.out _ HB.out).mono ?_; rintro e w2 ⟨rfl, hb⟩; replace HB := Lib.hid (HB.out.trans (hb.mono HB.out.size)); clear hb))
    go_ret2
    rw [HW.out]
    exact ⟨rfl, HB.out⟩
  | some xs =>
    rw [hr] at KF HW
    obtain ⟨hxl, hkl, hget⟩ := rowI_get hr
    have hcn : counts l ≤ 1000 := h.few l (by rw [hr]; rfl)
    have hw := itemsT_weight hl (ks := toks.map tokK) (show itemsT (.mk 40 (toks.map tokK)) l = some (.mk true [] xs) by rw [itemsT, if_neg (by decide), hr]; rfl)
    have HEN : Hid (∀ W p n c, RowT encIt (fun _ => True) W (.slice p n c) (itTs xs) → Calls Try.prog 111 #[.agg #[.bool true, .string ⟨#[]⟩, .slice p n c]] W fun e w' => e = .returned (.tuple #[.string (mkS (writeF (bl s) l).1), .int .i64 (writeF (bl s) l).2]) ∧ Below W.heap.size W w') := Lib.hid (fun W p n c h => by
      have hwt := write_le (.mk true [] xs) (by omega)
      rw [HW]
      refine rencode_any (.mk true [] xs) _ W (itemIs_iff.2 ⟨.slice p n c, rfl, ?_, kidsIs_of 100000 xs p n c ?_ (by omega) h⟩) (fun _ _ => by omega)
      · rw [It.weight] at hw; simp
      · rw [It.weight] at hw; omega)
    have KI : Hid (∀ (i : Nat) (t : List UInt8) (f : Fd) (sx : Sl) (y : It) (W : World), toks[i]? = some t → l[i]? = some f → xs[i]? = some y → FieldAt W f sx → Calls Try.prog 110 #[.string (mkS t), fV f.val sx] W fun e w' => ∃ v, e = .returned v ∧ ItemAns y W v w') := Lib.hid (fun i t f sx y W ht hf hy hF => by
      obtain ⟨y', hy', hi⟩ := hget i (tokK t) f (by rw [List.getElem?_map, ht]; rfl) hf
      rw [hy] at hy'
      obtain rfl := Option.some.inj hy'
      exact ritem_tok t (h.ok t (List.mem_of_getElem? ht)) f (fsOk_mem hl f (List.mem_of_getElem? hf)) sx _ hi W hF)
    obtain ⟨p, cap, rfl, s1, s2⟩ := RowT.shape hv
    rw [List.length_map] at hkl
    have HLEN := Lib.hid hxl
    have HKL := Lib.hid hkl
    have HV := Lib.hid hv
    have HL4 : Hid (l.length ≤ 1000) := Lib.hid (by have := counts_len l; omega)
    generalize writeF (bl s) l = res at *
    unfold maxLen at s2
    clear h hk hl hv hr hget hw hxl hkl HW hcn
    go_enter Try.func62, Try.ntmps62
    go_upto_region 4 with (first
      | (go_at_call 59; refine KK.out.mono ?_; rintro e w1 ⟨kv, rfl, ho, hb⟩; have HB := Lib.hid hb; have HO := Lib.hid (OwnE.row _ ho); clear hb ho)
      | (go_at_call 109; refine (KF.out _ HB.out).mono ?_; rintro e w2 ⟨rfl, hb⟩; replace HO := Lib.hid (RowE.below encS HO.out hb (Nat.le_refl _)); replace HB := Lib.hid (HB.out.trans (hb.mono HB.out.size)); clear hb))
    obtain ⟨pk, ck, rfl, k1, k2⟩ := RowE.shape _ HO.out
    rw [List.length_map, HKL.out] at k1 HO
    rw [List.length_map, HKL.out]
    unfold maxLen at k2
    go_upto_region 6 with (fail)
    have R6 := Lib.hid (RowAt.new w2 #[.bool true, .string ⟨#[]⟩, .slice none 0 0] 98)
    have HZ : Hid (w.heap.size ≤ w2.heap.size) := Lib.hid HB.out.size
    have HBK := Lib.hid (bel1 w2 (.cells #[.bool true, .string ⟨#[]⟩, .slice none 0 0] 98))
    generalize w2.alloc (.cells #[.bool true, .string ⟨#[]⟩, .slice none 0 0] 98) = W3 at *
    generalize hk6 : w2.heap.size = k6 at HBK R6 HZ ⊢
    have HSW := Lib.hid (Nat.le_of_eq hk6)
    clear hk6
    have O0 : Hid (OwnT encIt 98 (fun b => k6 < b) W3 (k6 + 1) (.slice none 0 0) (itTs (xs.take 0))) := Lib.hid (OwnT.nil _ _)
    go_loopw [27] (fun s27 wr => ∃ (i : Nat) (po : Option Addr) (co : Nat), i ≤ l.length ∧ s27 = .int .i64 i ∧ Hid (RowAt wr k6 #[.bool true, .string ⟨#[]⟩, .slice po i co] 98) ∧ Hid (OwnT encIt 98 (fun b => k6 < b) wr (k6 + 1) (.slice po i co) (itTs (xs.take i))) ∧ Hid (Below k6 w2 wr)) (fun s _ => l.length - (intOf s).toNat)
    case atStart => exact ⟨0, none, 0, Nat.zero_le _, rfl, R6, O0, HBK⟩
    case round =>
      clear R6 O0 HBK
      obtain ⟨i, po, co, hi, rfl, h6, ho, hb⟩ := hrel
      have R6 := Lib.hid h6.out
      have O := Lib.hid ho.out
      have HBK := Lib.hid hb.out
      clear h6 ho hb
      by_cases hlt : i < l.length
      · obtain ⟨f, hf⟩ : ∃ f, l[i]? = some f := ⟨_, List.getElem?_eq_getElem hlt⟩
        obtain ⟨t, ht⟩ : ∃ t, toks[i]? = some t := ⟨_, List.getElem?_eq_getElem (by have := HKL.out; omega)⟩
        obtain ⟨y, hy⟩ : ∃ y, xs[i]? = some y := ⟨_, List.getElem?_eq_getElem (by have := HLEN.out; omega)⟩
        have hbw := HB.out.trans (HBK.out.mono HZ.out)
        obtain ⟨adf, sf, rfl, hfc, hfk⟩ := RowT.at2 (HV.out.below hbw (Nat.le_refl _)) hf
        have HA := (RowE.below encS HO.out HBK.out HSW.out).atS.2.2.2
        obtain ⟨ad, rfl, c0⟩ := HA i (mkS t) (by rw [List.getElem?_map, ht]; rfl)
        clear HA
        have KC2 : Hid (Calls Try.prog 110 #[.string (mkS t), fV f.val sf] { wr with drawn := wr.drawn + 1 } fun e w' => ∃ v, e = .returned v ∧ ItemAns y wr v w') := Lib.hid ((KI.out i t f sf y _ ht hf hy (RowT.below hfk (Below.refl wr.heap.size wr).drew (Nat.le_refl _))).mono fun e w' ⟨v, h1, h2⟩ => ⟨v, h1, ItemAns.drew h2⟩)
        have HTK : Hid (itTs (xs.take i) ++ [itT y] = itTs (xs.take (i + 1))) := Lib.hid (by rw [List.take_add_one, hy, itTs_map, itTs_map]; simp)
        have HTL : Hid ((itTs (xs.take i)).length = i) := Lib.hid (by rw [itTs_map]; simp; have := HLEN.out; omega)
        obtain ⟨p3, n3, c3⟩ := sf
        obtain ⟨⟨xn, xb⟩, xk⟩ := f
        simp only [fV, slV] at KC2
        have key : ∀ {q : Addr} {v : Value}, wr.cell? q = some v → ∀ u : Later wr, u.w.cell? q = some v := fun h u => by
          rw [u.below.cell (block_lt_of_cell h)]; exact h
        have r0 : ∀ u : Later wr, u.w.cell? (adf.add (i * 3)) = some (.int .u64 (xn : Int)) := key (hfc 0 _ rfl)
        have r1 : ∀ u : Later wr, u.w.cell? ⟨(adf.add (i * 3)).block, (adf.add (i * 3)).off + 1, none⟩ = some (.string (mkS xb)) := key (hfc 1 _ rfl)
        have r2 : ∀ u : Later wr, u.w.cell? ⟨(adf.add (i * 3)).block, (adf.add (i * 3)).off + 2, none⟩ = some (.slice p3 n3 c3) := key (hfc 2 _ rfl)
        have q := R6.out.lw3
        obtain ⟨q0, q1, q2, qf0, qf1, qf2⟩ := q
        clear key hfc hf hfk hy ht hbw
        go_upto_region 8 with (fail)
        clear c0
        (refine region_call_tail 7 mix ?hB ⟨_, _, rfl, rfl, ?_⟩; case hB => kernel_rfl); (simp only [List.take_succ_cons, List.take_zero, List.drop_succ_cons, List.drop_zero]); (iterate 7 (with_reducible refine cr_step ?_; intro K hK; go_simp; (with_reducible refine hK _ ?_); clear hK K)); (with_reducible refine cr_nil ?_); (refine ⟨rfl, ?_⟩); (with_reducible refine cr_call ?_); (intro K hK; unfold EC; go_simp; (refine KC2.out.mono ?_; rintro e w6 ⟨v, rfl, l', b, p, n, c', ks', rfl, rfl, hb, hrow⟩; refine ⟨_, rfl, hb, hK _ _ ?_⟩; clear hK K)); (refine ⟨rfl, ?_⟩); (with_reducible refine cr_made ?_); (intro K hK; unfold EB; go_simp; refine ⟨⟨_, rfl⟩, hK _ _ ?_⟩; clear hK K)
        have HSR := Lib.hid R6.out.lt
        have HY := Lib.hid ((OwnT.fresh (t := itT (.mk l' b ks')) (s := (p, n, c')) O.out (Nat.le_refl _) (fun b hb => Nat.lt_of_lt_of_le HSR.out hb) (show RowT encIt (fun b => wr.heap.size ≤ b) w6 (.slice p n c') (itTs ks') from hrow)).move (bel1 w6 (.cells #[.bool l', .string (mkS b), .slice p n c'] 98)) (Nat.le_refl _))
        clear hrow r0 r1 r2 q0 q1 q2 qf0 qf1 qf2 KC2
        replace R6 := Lib.hid (R6.out.belowS hb)
        replace O := Lib.hid (O.out.below hb (Nat.le_refl _))
        replace HBK := Lib.hid (HBK.out.trans (hb.mono (Nat.le_of_lt HSR.out)))
        clear hb
        have R11 := Lib.hid (RowAt.new w6 #[.bool l', .string (mkS b), .slice p n c'] 98)
        replace O := Lib.hid (O.out.below (bel1 w6 (.cells #[.bool l', .string (mkS b), .slice p n c'] 98)) (Nat.le_refl _))
        have HSZ : Hid (k6 + 1 ≤ (w6.alloc (.cells #[.bool l', .string (mkS b), .slice p n c'] 98)).heap.size) := Lib.hid (by have := R6.out.lt; simp; omega)
        replace HBK := Lib.hid (HBK.out.alloc (Nat.le_of_lt R6.out.lt) (.cells #[.bool l', .string (mkS b), .slice p n c'] 98))
        replace R6 := Lib.hid (R6.out.alloc (.cells #[.bool l', .string (mkS b), .slice p n c'] 98))
        generalize w6.alloc (.cells #[.bool l', .string (mkS b), .slice p n c'] 98) = w7 at *
        generalize w6.heap.size = k10 at *
        go_wp2_with (at_builtin; refine wpList_append_tree (E := encIt) (A := fun b => k6 < b) Try.underlying93 info_it rfl (by omega) rfl _ _ rfl (k6 + 1) _ (itTs (xs.take i)) rfl O.out ⟨k10, 0, none⟩ (itT (.mk l' b ks')) ((l', b), p, n, c') rfl (lit_cells R11.out rfl) HY.out (by have := HTL.out; have := HL4.out; omega) HSZ.out ?_)
        intro v' w' ho hg hbb hz
        obtain ⟨po', co', rfl, _, _⟩ := OwnT.shape ho
        have HN : (itTs (xs.take i) ++ [itT (.mk l' b ks')]).length = i + 1 := by rw [List.length_append, HTL.out]; rfl
        rw [HN]
        rw [HN, HTK.out] at ho
        have hbk := hbb _ (Below.refl _ _)
        replace R6 := Lib.hid (R6.out.below hbk (Nat.lt_succ_self _))
        replace HBK := Lib.hid (HBK.out.trans (hbk.mono (Nat.le_succ _)))
        replace O := Lib.hid ho
        clear ho hg hbb hz hbk HN HY R11 HSZ
        have q := R6.out.c3
        obtain ⟨q0, q1, q2, qf0, qf1, qf2⟩ := q
        replace R6 := Lib.hid (R6.out.set 2 (.slice po' (i + 1) co') rfl)
        replace O := Lib.hid (O.out.setLow ⟨k6, 2, none⟩ (.slice po' (i + 1) co') (Nat.lt_succ_self _) (fun b hb => by simp only; omega))
        replace HBK := Lib.hid (HBK.out.setCell (p := ⟨k6, 2, none⟩) (Nat.le_refl _) (.slice po' (i + 1) co'))
        go_wp2
        exact ⟨⟨i + 1, po', co', by omega, by simp, R6, O, HBK⟩, by simp [intOf]; omega⟩
      · obtain rfl : i = l.length := by omega
        have HI := Lib.hid (show RowT encIt (fun _ => True) wr (.slice po l.length co) (itTs xs) from by
          have := O.out.row (fun b hb => hb)
          rw [List.take_of_length_le (by have := HLEN.out; omega)] at this
          exact this.weaken (fun _ _ => trivial))
        have KE := Lib.hid (HEN.out wr po l.length co HI.out)
        clear O
        have q := R6.out.c3
        obtain ⟨q0, q1, q2, qf0, qf1, qf2⟩ := q
        go_wp2_with (go_at_call 111; refine KE.out.mono ?_; rintro e w5 ⟨rfl, hb⟩; replace HB := Lib.hid ((HB.out.trans (HBK.out.mono HZ.out)).trans (hb.mono (Nat.le_trans HZ.out (Nat.le_of_lt R6.out.lt)))); clear hb)
        go_ret2
        exact ⟨rfl, HB.out⟩
end Go.Proofs.Ytefmlbckbhlgdaa

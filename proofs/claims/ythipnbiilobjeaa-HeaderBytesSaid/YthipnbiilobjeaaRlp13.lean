/- Rlp: contracts of the program: write. Rlp: contracts of both Encodes. Rlp: contracts of the reference's Encode, of alive and few; items compared. -/
import Derived.Test.YthipnbiilobjeaaRlp7
import Derived.Test.YthipnbiilobjeaaBld
import Derived.Test.YthipnbiilobjeaaRlp10
namespace Go.Proofs.Ythipnbiilobjeaa
open Go.RowKit
set_option maxRecDepth 100000

theorem bld_below {T e : TypeId} {B b N : Nat} {bs : List Value} {w w' : World} (h : Lib.IsBuilder T e B b bs w) (hb : Below N w w') (hN : w.heap.size ≤ N) : Lib.IsBuilder T e B b bs w' := by
  have key : ∀ p, Lib.BuilderAt T e B b p bs w → Lib.BuilderAt T e B b p bs w' := by
    intro p h
    have hlt := h.lt
    obtain ⟨hB, v, hbk, hown, hne⟩ := h
    refine ⟨hB, v, by rw [hb.block b (by omega)]; exact hbk, ⟨hown.1, ?_⟩, hne⟩
    rcases hown.2 with h' | ⟨g, cap, cur, hv, hg, hc, r⟩
    · exact .inl h'
    · have hlt : g < w.heap.size := by
        rcases Nat.lt_or_ge g w.heap.size with h | h
        · exact h
        · rw [Array.getElem?_eq_none h] at hc; cases hc
      exact .inr ⟨g, cap, cur, hv, hg, by rw [hb.block g (by omega)]; exact hc, r⟩
  rcases h with h | h
  · exact .inl (key _ h)
  · exact .inr (key _ h)

set_option maxRecDepth 100000 in
set_option maxHeartbeats 1000000 in
theorem write_any : ∀ (n : Nat) (x : It), x.size ≤ n → x.write.length ≤ 1000000000 → ∀ (v : Value) (w : World), ItemIs w x v →
    Calls Try.prog 76 #[v] w fun e w' => e = .returned (.string (mkS x.write)) ∧ Below w.heap.size w w'
  | 0, x, h, _, _, _, _ => by have := x.size_pos; omega
  | n + 1, .mk l b ks, hsz, hw, v, w, hv => by
    obtain ⟨kv, rfl, hbz, hk⟩ := itemIs_iff.1 hv
    have KI := Lib.hid (write_any n)
    clear hv
    obtain ⟨p, cap, rfl, h1, h2, hg⟩ := hk.parts
    rw [It.size] at hsz
    have B : Hid (Below w.heap.size w (w.alloc (itemO l (mkS b) (.slice p ks.length cap)))) := Lib.hid ((Below.refl _ _).alloc (Nat.le_refl _) _)
    have L : Hid (RowAt (w.alloc (itemO l (mkS b) (.slice p ks.length cap))) w.heap.size #[.bool l, .string (mkS b), .slice p ks.length cap] 65) := Lib.hid (RowAt.new _ _ _)
    cases l with
    | false =>
      rw [It.write, if_neg (by simp)] at hw ⊢
      have hz : (mkS b).size = b.length := mk_size _
      clear hk hsz hg KI
      by_cases hb : b.length ≠ 1
      · rw [if_neg (fun h => hb h.1)] at hw ⊢
        rw [List.length_append] at hw
        have KH := Lib.hid (fun w => head_any 128 b.length w (.inl rfl) (by omega))
        have HZ : (mkS (headL 128 b.length)).size + (mkS b).size ≤ 1000000000 := by rw [mk_size, mk_size]; omega
        have HE : Hid (mkS (headL 128 b.length) ++ mkS b = mkS (headL 128 b.length ++ b)) := Lib.hid (mk_append _ _)
        generalize mkS (headL 128 b.length ++ b) = RS at *
        generalize mkS (headL 128 b.length) = HS' at *
        clear hw
        generalize b.length = bn at *
        obtain ⟨a0, a1, a2, af0, af1, af2⟩ := L.out.c3
        go_enter Try.func76, Try.ntmps76
        go_wp2
        go_upto_region 11 with (fail)
        generalize w.alloc (itemO false (mkS b) (.slice p ks.length cap)) = W at *
        obtain ⟨l0, l1, l2⟩ := L.out.l3
        (refine region_later mix ?hB ?_; case hB => kernel_rfl); (repeat (first | go_big_quiet_step ((go_at_call 123; with_reducible exact Later.call (KH.out _))) | quiet_step ((go_at_call 123; with_reducible exact Later.call (KH.out _))))); (refine wpQuiet_nil ?_; rintro _ ⟨u, rfl⟩)
        go_wp2
        go_ret
        exact ⟨by rw [← HE.out]; rfl, B.out.trans (u.below.mono B.out.size)⟩
      · obtain ⟨c, rfl⟩ : ∃ c, b = [c] := by
          match b, (by omega : b.length = 1) with
          | [c], _ => exact ⟨c, rfl⟩
        have hz1 : (mkS [c]).size = 1 := rfl
        have hg : (mkS [c])[0]'(by rw [hz1]; decide) = c := rfl
        have hcl := c.toNat_lt
        clear hb hz
        by_cases hc : c.toNat < 128
        · rw [if_pos ⟨rfl, by simpa using hc⟩] at hw ⊢
          clear hw
          obtain ⟨a0, a1, a2, af0, af1, af2⟩ := L.out.c3
          go_enter Try.func76, Try.ntmps76
          go_wp2
          go_ret
          exact ⟨rfl, B.out⟩
        · rw [if_neg (fun h => hc (by simpa using h.2))] at hw ⊢
          rw [List.length_append] at hw
          have KH := Lib.hid (fun w => head_any 128 [c].length w (.inl rfl) (by simp))
          have HE : Hid (mkS (headL 128 [c].length) ++ mkS [c] = mkS (headL 128 [c].length ++ [c])) := Lib.hid (mk_append _ _)
          have HZ : (mkS (headL 128 [c].length)).size = 1 := by rw [headL_short (by simp)]; rfl
          generalize mkS (headL 128 [c].length ++ [c]) = RS at *
          generalize mkS (headL 128 [c].length) = HS' at *
          clear hw
          obtain ⟨a0, a1, a2, af0, af1, af2⟩ := L.out.c3
          go_enter Try.func76, Try.ntmps76
          go_wp2
          go_upto_region 11 with (fail)
          generalize w.alloc (itemO false (mkS [c]) (.slice p ks.length cap)) = W at *
          obtain ⟨l0, l1, l2⟩ := L.out.l3
          (refine region_later mix ?hB ?_; case hB => kernel_rfl); (repeat (first | go_big_quiet_step ((go_at_call 123; with_reducible exact Later.call (KH.out _))) | quiet_step ((go_at_call 123; with_reducible exact Later.call (KH.out _))))); (refine wpQuiet_nil ?_; rintro _ ⟨u, rfl⟩)
          go_wp2
          go_ret
          exact ⟨by rw [← HE.out]; rfl, B.out.trans (u.below.mono B.out.size)⟩
    | true =>
      rw [It.write, if_pos rfl] at hw ⊢
      rw [List.length_append] at hw
      have HG := Lib.hid hg
      have HS := Lib.hid (fun i k (h : ks[i]? = some k) => (by have := sizes_get h; omega : It.size k ≤ n))
      have HD := Lib.hid (fun i k (h : ks[i]? = some k) => writes_take h)
      have HL := Lib.hid (fun i => (by have := writes_take_le ks i; omega : (writes (ks.take i)).length ≤ 1000000000))
      have D0 : Hid (writes (ks.take 0) = []) := Lib.hid (by simp [writes])
      have DM : Hid (writes (ks.take ks.length) = writes ks) := Lib.hid (by rw [List.take_length])
      have KH := Lib.hid (fun w => head_any 192 (writes ks).length w (.inr rfl) (by omega))
      have HZ : (mkS (headL 192 (writes ks).length)).size + (mkS (writes ks)).size ≤ 1000000000 := by rw [mk_size, mk_size]; omega
      have HE : Hid (mkS (headL 192 (writes ks).length) ++ mkS (writes ks) = mkS (headL 192 (writes ks).length ++ writes ks)) := Lib.hid (mk_append _ _)
      have HZ2 : (mkS (writes ks)).size = (writes ks).length := mk_size _
      clear hk hsz hg hbz hw
      generalize mkS (headL 192 (writes ks).length ++ writes ks) = RS at *
      generalize hm : ks.length = m at *
      have HM := Lib.hid hm
      clear hm
      have hop := Lib.fresh_isBuilder 155 5 (w.alloc (itemO true (mkS b) (.slice p m cap)))
      rw [show (w.alloc (itemO true (mkS b) (.slice p m cap))).heap.size = w.heap.size + 1 by simp] at hop
      have B2 : Hid (Below w.heap.size w ((w.alloc (itemO true (mkS b) (.slice p m cap))).alloc (.cells #[.pointer none, .slice none 0 0] 155))) := Lib.hid (B.out.alloc B.out.size _)
      have OB := Lib.hid hop
      clear hop
      obtain ⟨a0, a1, a2, af0, af1, af2⟩ := L.out.c3
      go_enter Try.func76, Try.ntmps76
      go_wp2
      go_loopw [11] (fun i wr => ∃ k : Nat, k ≤ m ∧ i = .int .i64 k ∧ Lib.IsBuilder 155 5 (w.heap.size + 1) (w.heap.size + 1) (Lib.byteCells (writes (ks.take k))) wr ∧ Below w.heap.size w wr ∧ w.heap.size + 1 ≤ wr.heap.size) (fun i _ => m - (intOf i).toNat)
      case atStart => exact ⟨0, Nat.zero_le _, rfl, by rw [D0.out]; exact OB.out, B2.out, by simp⟩
      case round =>
        obtain ⟨k, hk, rfl, hob, hbl, hbs⟩ := hrel
        have HB := Lib.hid hbl
        have HO := Lib.hid hob
        clear hbl hob L B D0 B2 OB
        by_cases hlt : k < m
        · obtain ⟨x, hx⟩ : ∃ x, ks[k]? = some x := ⟨_, List.getElem?_eq_getElem (by rw [HM.out]; exact hlt)⟩
          obtain ⟨a, l', b', p', n', c', rfl, c0, c1, c2, hi⟩ := HG.out k x hx
          have g1 := HS.out k x hx
          have HX := Lib.hid (ItemIs.below HB.out (Nat.le_refl _) _ _ hi)
          have q0 : wr.cell? (a.add (k * 3)) = some (.bool l') := by rw [HB.out.cell (block_lt_of_cell c0)]; exact c0
          have q1 : wr.cell? ⟨(a.add (k * 3)).block, (a.add (k * 3)).off + 1, none⟩ = some (.string b') := by
            have e : (⟨(a.add (k * 3)).block, (a.add (k * 3)).off + 1, none⟩ : Addr) = a.add (k * 3 + 1) := by rw [← Go.Deep.add_add]; rfl
            rw [e, HB.out.cell (block_lt_of_cell c1)]
            exact c1
          have q2 : wr.cell? ⟨(a.add (k * 3)).block, (a.add (k * 3)).off + 2, none⟩ = some (.slice p' n' c') := by
            have e : (⟨(a.add (k * 3)).block, (a.add (k * 3)).off + 2, none⟩ : Addr) = a.add (k * 3 + 2) := by rw [← Go.Deep.add_add]; rfl
            rw [e, HB.out.cell (block_lt_of_cell c2)]
            exact c2
          clear hi c0 c1 c2
          have L : Hid (RowAt (wr.alloc (itemO l' b' (.slice p' n' c'))) wr.heap.size #[.bool l', .string b', .slice p' n' c'] 65) := Lib.hid (RowAt.new _ _ _)
          replace HB := Lib.hid (HB.out.alloc HB.out.size (itemO l' b' (.slice p' n' c')))
          replace HX := Lib.hid (ItemIs.below ((Below.refl wr.heap.size wr).alloc (Nat.le_refl _) (itemO l' b' (.slice p' n' c'))) (Nat.le_refl _) _ _ HX.out)
          replace HO := Lib.hid (bld_below HO.out ((Below.refl wr.heap.size wr).alloc (Nat.le_refl _) (itemO l' b' (.slice p' n' c'))) (Nat.le_refl _))
          have HD1 := Lib.hid (HD.out k x hx)
          have hz1 := HL.out (k + 1)
          rw [HD1.out, List.length_append] at hz1
          have hz3 : (mkS x.write).size = x.write.length := mk_size _
          have hz4 : (Lib.byteCells (writes (ks.take k))).length = (writes (ks.take k)).length := Lib.byteCells_length _
          have HE1 : Hid (Lib.byteCells (writes (ks.take k)) ++ Lib.strCells (mkS x.write) = Lib.byteCells (writes (ks.take k) ++ x.write)) := Lib.hid (Lib.byteCells_append _ _).symm
          have hxl : x.write.length ≤ 1000000000 := by omega
          obtain ⟨a0, a1, a2, af0, af1, af2⟩ := L.out.c3
          go_wp2_with fail
          refine (KI.out x g1 hxl _ _ HX.out).mono ?_
          rintro e w2 ⟨rfl, hb⟩
          replace HO := Lib.hid (bld_below HO.out hb (Nat.le_refl _))
          have hz5 : wr.heap.size + 1 ≤ w2.heap.size := by have := hb.size; simpa using this
          (replace HB := Lib.hid (HB.out.trans (hb.mono HB.out.size)); clear hb)
          go_wp2_with fail
          refine (bld_write _ _ _ _ _ HO.out (by rw [hz4, hz3]; omega) (by omega)).mono ?_
          rintro e w3 ⟨rfl, hob, hb⟩
          have HO3 := Lib.hid hob
          have HB3 := Lib.hid (HB.out.trans (hb.mono (by omega)))
          have hz6 := hb.size
          clear hob hb HO HB
          go_wp2_with fail
          go_roundw
          case rel => exact ⟨k + 1, by omega, by go_num, by rw [HD1.out, ← HE1.out]; exact .inr HO3.out, HB3.out, by omega⟩
          case measure => simp [intOf]; omega
        · obtain rfl : k = m := by omega
          rw [DM.out] at HO
          have hz4 : (Lib.byteCells (writes ks)).length = (writes ks).length := Lib.byteCells_length _
          go_wp2_with fail
          refine (bld_len _ _ _ _ HO.out).mono ?_
          rintro e w2 ⟨rfl, rfl⟩
          rw [hz4]
          go_wp2_with fail
          refine (KH.out _).mono ?_
          rintro e w2 ⟨rfl, hb⟩
          replace HO := Lib.hid (bld_below HO.out hb (Nat.le_refl _))
          have hz5 := hb.size
          (replace HB := Lib.hid (HB.out.trans (hb.mono HB.out.size)); clear hb)
          go_wp2_with fail
          refine (bld_string _ _ _ _ HO.out (by omega)).mono ?_
          rintro e w3 ⟨rfl, hb⟩
          have HB3 := Lib.hid (HB.out.trans (hb.mono (by omega)))
          clear hb HO HB
          rw [show (⟨(writes ks).toArray⟩ : ByteArray) = mkS (writes ks) from rfl]
          generalize writes ks = W at *
          generalize mkS W = WS at *
          generalize mkS (headL 192 W.length) = HS' at *
          go_wp2_with fail
          go_ret
          exact ⟨by rw [← HE.out]; rfl, HB3.out⟩
end Go.Proofs.Ythipnbiilobjeaa

namespace Go.Proofs.Ythipnbiilobjeaa
open Go.RowKit
set_option maxRecDepth 100000

/-- What an item is encoded as: bytes, and the error's number. -/
def It.enc (x : It) : List UInt8 × Int :=
  if (x.pureB && decide (x.size ≤ 4000)) = false then ([], 1) else if 8 < x.depth then ([], 5) else if 4000 < x.write.length then ([], 2) else (x.write, 0)

set_option maxRecDepth 100000 in
set_option maxHeartbeats 1000000 in
theorem encode_any (x : It) (v : Value) (w : World) (hx : ItemIs w x v) (hw : x.pureB = true → x.size ≤ 4000 → x.write.length ≤ 1000000000) :
    Calls Try.prog 41 #[v] w fun e w' => e = .returned (.tuple #[.string (mkS x.enc.1), .int .i64 x.enc.2]) ∧ Below w.heap.size w w' := by
  obtain ⟨⟨l, b, p, n, c⟩, rfl⟩ := itemIs_val hx
  have HX : ∀ W, Below w.heap.size w W → ItemIs W x (.agg #[.bool l, .string b, .slice p n c]) := fun W h => ItemIs.below h (Nat.le_refl _) _ _ hx
  have HI := Lib.hid HX
  have L : Hid (RowAt (w.alloc (ivO (l, b, p, n, c))) w.heap.size #[.bool l, .string b, .slice p n c] 65) := Lib.hid (RowAt.new _ _ _)
  have B : Hid (Below w.heap.size w (w.alloc (ivO (l, b, p, n, c)))) := Lib.hid ((Below.refl _ _).alloc (Nat.le_refl _) _)
  show Calls Try.prog 41 #[.agg #[.bool l, .string b, .slice p n c]] w _
  have K1 := Lib.hid (fun W h => well_any x (.agg #[.bool l, .string b, .slice p n c]) W (HX W h))
  cases hwell : (x.pureB && decide (x.size ≤ 4000)) with
  | false =>
    have HE : Hid (x.enc = ([], 1)) := Lib.hid (by rw [It.enc, if_pos hwell])
    rw [hwell] at K1
    clear hx HX hw hwell
    obtain ⟨a0, a1, a2, af0, af1, af2⟩ := L.out.c3
    go_enter Try.func41, Try.ntmps41
    go_wp2_with fail
    refine (K1.out _ B.out).mono ?_
    rintro e w2 ⟨rfl, hb⟩
    (replace B := Lib.hid (B.out.trans (hb.mono B.out.size)); clear hb)
    go_wp2
    go_ret2
    rw [HE.out]
    exact ⟨rfl, B.out⟩
  | true =>
    rw [hwell] at K1
    have hwell' := hwell
    rw [Bool.and_eq_true, decide_eq_true_eq] at hwell'
    have K2 := Lib.hid (fun W h => deep_any x.size x (Nat.le_refl _) ((pureB_iff x).1 hwell'.1) (by omega) (.agg #[.bool l, .string b, .slice p n c]) W (HX W h))
    have K3 := Lib.hid (fun W h => write_any x.size x (Nat.le_refl _) (hw hwell'.1 hwell'.2) (.agg #[.bool l, .string b, .slice p n c]) W (HX W h))
    have hwl := hw hwell'.1 hwell'.2
    have HE0 : Hid (x.enc = if 8 < x.depth then ([], 5) else if 4000 < x.write.length then ([], 2) else (x.write, 0)) := Lib.hid (by rw [It.enc, if_neg (by rw [hwell]; simp)])
    have hz : (mkS x.write).size = x.write.length := mk_size _
    clear hx HX hw hwell hwell'
    generalize hd : x.depth = d at *
    generalize hxw : x.write = xw at *
    clear hd hxw
    generalize xw.length = n' at *
    by_cases hd : 8 < d
    · have HE : Hid (x.enc = ([], 5)) := Lib.hid (by rw [HE0.out, if_pos hd])
      obtain ⟨a0, a1, a2, af0, af1, af2⟩ := L.out.c3
      go_enter Try.func41, Try.ntmps41
      go_wp2_with fail
      refine (K1.out _ B.out).mono ?_
      rintro e w2 ⟨rfl, hb⟩
      clear a0 a1 a2 af0 af1 af2
      (replace L := Lib.hid (L.out.belowS hb); replace B := Lib.hid (B.out.trans (hb.mono B.out.size)); clear hb)
      obtain ⟨a0, a1, a2, af0, af1, af2⟩ := L.out.c3
      go_wp2_with fail
      refine (K2.out _ B.out).mono ?_
      rintro e w2 ⟨rfl, hb⟩
      (replace B := Lib.hid (B.out.trans (hb.mono B.out.size)); clear hb)
      go_wp2
      go_ret2
      rw [HE.out]
      exact ⟨rfl, B.out⟩
    · by_cases hn : 4000 < n'
      · have HE : Hid (x.enc = ([], 2)) := Lib.hid (by rw [HE0.out, if_neg hd, if_pos hn])
        obtain ⟨a0, a1, a2, af0, af1, af2⟩ := L.out.c3
        go_enter Try.func41, Try.ntmps41
        go_wp2_with fail
        refine (K1.out _ B.out).mono ?_
        rintro e w2 ⟨rfl, hb⟩
        clear a0 a1 a2 af0 af1 af2
        (replace L := Lib.hid (L.out.belowS hb); replace B := Lib.hid (B.out.trans (hb.mono B.out.size)); clear hb)
        obtain ⟨a0, a1, a2, af0, af1, af2⟩ := L.out.c3
        go_wp2_with fail
        refine (K2.out _ B.out).mono ?_
        rintro e w3 ⟨rfl, hb⟩
        clear a0 a1 a2 af0 af1 af2
        (replace L := Lib.hid (L.out.belowS hb); replace B := Lib.hid (B.out.trans (hb.mono B.out.size)); clear hb)
        obtain ⟨a0, a1, a2, af0, af1, af2⟩ := L.out.c3
        go_wp2_with fail
        refine (K3.out _ B.out).mono ?_
        rintro e w4 ⟨rfl, hb⟩
        (replace B := Lib.hid (B.out.trans (hb.mono B.out.size)); clear hb)
        go_wp2
        go_ret2
        rw [HE.out]
        exact ⟨rfl, B.out⟩
      · have HE : Hid (x.enc = (xw, 0)) := Lib.hid (by rw [HE0.out, if_neg hd, if_neg hn])
        obtain ⟨a0, a1, a2, af0, af1, af2⟩ := L.out.c3
        go_enter Try.func41, Try.ntmps41
        go_wp2_with fail
        refine (K1.out _ B.out).mono ?_
        rintro e w2 ⟨rfl, hb⟩
        clear a0 a1 a2 af0 af1 af2
        (replace L := Lib.hid (L.out.belowS hb); replace B := Lib.hid (B.out.trans (hb.mono B.out.size)); clear hb)
        obtain ⟨a0, a1, a2, af0, af1, af2⟩ := L.out.c3
        go_wp2_with fail
        refine (K2.out _ B.out).mono ?_
        rintro e w3 ⟨rfl, hb⟩
        clear a0 a1 a2 af0 af1 af2
        (replace L := Lib.hid (L.out.belowS hb); replace B := Lib.hid (B.out.trans (hb.mono B.out.size)); clear hb)
        obtain ⟨a0, a1, a2, af0, af1, af2⟩ := L.out.c3
        go_wp2_with fail
        refine (K3.out _ B.out).mono ?_
        rintro e w4 ⟨rfl, hb⟩
        (replace B := Lib.hid (B.out.trans (hb.mono B.out.size)); clear hb)
        go_wp2
        go_ret2
        rw [HE.out]
        exact ⟨rfl, B.out⟩
end Go.Proofs.Ythipnbiilobjeaa

namespace Go.Proofs.Ythipnbiilobjeaa
open Go.RowKit
set_option maxRecDepth 100000

mutual
/-- Two items, compared. -/
def It.like : It → It → Bool
  | .mk l b ks, .mk l' b' ks' => (l == l') && (b == b') && likes ks ks'
def likes : List It → List It → Bool
  | [], [] => true
  | k :: ks, k' :: ks' => k.like k' && likes ks ks'
  | _, _ => false
end

mutual
theorem like_iff : ∀ x y : It, x.like y = true ↔ x = y
  | .mk l b ks, .mk l' b' ks' => by
    rw [It.like, Bool.and_eq_true, Bool.and_eq_true, likes_iff ks ks', It.mk.injEq, beq_iff_eq, beq_iff_eq, and_assoc]
theorem likes_iff : ∀ xs ys : List It, likes xs ys = true ↔ xs = ys
  | [], [] => by simp [likes]
  | k :: ks, k' :: ks' => by rw [likes, Bool.and_eq_true, like_iff k k', likes_iff ks ks', List.cons.injEq]
  | [], _ :: _ => by simp [likes]
  | _ :: _, [] => by simp [likes]
end

theorem likes_length : ∀ {xs ys : List It}, likes xs ys = true → xs.length = ys.length := fun h => congrArg List.length ((likes_iff _ _).1 h)

theorem likes_take : ∀ {xs ys : List It} {i : Nat} {k k' : It}, xs[i]? = some k → ys[i]? = some k' → likes (xs.take (i + 1)) (ys.take (i + 1)) = (likes (xs.take i) (ys.take i) && k.like k')
  | x :: xs, y :: ys, 0, k, k', h, h' => by simp at h h'; subst h h'; simp [likes]
  | x :: xs, y :: ys, i + 1, k, k', h, h' => by
    rw [List.take_succ_cons, List.take_succ_cons, List.take_succ_cons, List.take_succ_cons, likes, likes, likes_take (by simpa using h) (by simpa using h'), Bool.and_assoc]
  | [], _, i, k, k', h, _ => by simp at h
  | _, [], i, k, k', _, h => by simp at h

theorem likes_stop : ∀ {xs ys : List It} {i : Nat} {k k' : It}, xs[i]? = some k → ys[i]? = some k' → k.like k' = false → likes xs ys = false
  | x :: xs, y :: ys, 0, k, k', h, h', hf => by simp at h h'; subst h h'; simp [likes, hf]
  | x :: xs, y :: ys, i + 1, k, k', h, h', hf => by rw [likes, likes_stop (by simpa using h) (by simpa using h') hf, Bool.and_false]
  | [], _, i, k, k', h, _, _ => by simp at h
  | _, [], i, k, k', _, h, _ => by simp at h

set_option maxRecDepth 100000 in
set_option maxHeartbeats 1000000 in
theorem rencode_any (x : It) (v : Value) (w : World) (hx : ItemIs w x v) (hw : x.pureB = true → x.size ≤ 4000 → x.write.length ≤ 1000000000) :
    Calls Try.prog 92 #[v] w fun e w' => e = .returned (.tuple #[.string (mkS x.enc.1), .int .i64 x.enc.2]) ∧ Below w.heap.size w w' := by
  obtain ⟨⟨l, b, p, n, c⟩, rfl⟩ := itemIs_val hx
  have HX : ∀ W, Below w.heap.size w W → ItemIs W x (.agg #[.bool l, .string b, .slice p n c]) := fun W h => ItemIs.below h (Nat.le_refl _) _ _ hx
  have HI := Lib.hid HX
  have L : Hid (RowAt (w.alloc (ivO (l, b, p, n, c))) w.heap.size #[.bool l, .string b, .slice p n c] 65) := Lib.hid (RowAt.new _ _ _)
  have B : Hid (Below w.heap.size w (w.alloc (ivO (l, b, p, n, c)))) := Lib.hid ((Below.refl _ _).alloc (Nat.le_refl _) _)
  show Calls Try.prog 92 #[.agg #[.bool l, .string b, .slice p n c]] w _
  have K1 := Lib.hid (fun W h => many_any x (.agg #[.bool l, .string b, .slice p n c]) 4000 W (HX W h) (by omega))
  have KP := Lib.hid (fun W h => rpure_any x.size x (Nat.le_refl _) (.agg #[.bool l, .string b, .slice p n c]) W (HX W h))
  cases hwell : (x.pureB && decide (x.size ≤ 4000)) with
  | false =>
    have HE : Hid (x.enc = ([], 1)) := Lib.hid (by rw [It.enc, if_pos hwell])
    clear hx HX hw
    by_cases hsz : x.size ≤ 4000
    · have hp : x.pureB = false := by simpa [hsz] using hwell
      rw [hp] at KP
      rw [show min x.size (4000 + 1) = x.size by omega] at K1
      generalize x.size = sz at *
      clear hwell hp
      obtain ⟨a0, a1, a2, af0, af1, af2⟩ := L.out.c3
      go_enter Try.func92, Try.ntmps92
      go_wp2_with fail
      refine (K1.out _ B.out).mono ?_
      rintro e w2 ⟨rfl, hb⟩
      clear a0 a1 a2 af0 af1 af2
      (replace L := Lib.hid (L.out.belowS hb); replace B := Lib.hid (B.out.trans (hb.mono B.out.size)); clear hb)
      obtain ⟨a0, a1, a2, af0, af1, af2⟩ := L.out.c3
      go_wp2_with fail
      refine (KP.out _ B.out).mono ?_
      rintro e w3 ⟨rfl, hb⟩
      (replace B := Lib.hid (B.out.trans (hb.mono B.out.size)); clear hb)
      go_wp2
      go_ret2
      rw [HE.out]
      exact ⟨rfl, B.out⟩
    · rw [show min x.size (4000 + 1) = 4001 by omega] at K1
      clear hwell hsz
      obtain ⟨a0, a1, a2, af0, af1, af2⟩ := L.out.c3
      go_enter Try.func92, Try.ntmps92
      go_wp2_with fail
      refine (K1.out _ B.out).mono ?_
      rintro e w2 ⟨rfl, hb⟩
      (replace B := Lib.hid (B.out.trans (hb.mono B.out.size)); clear hb)
      go_wp2
      go_ret2
      rw [HE.out]
      exact ⟨rfl, B.out⟩
  | true =>
    have hwell' := hwell
    rw [Bool.and_eq_true, decide_eq_true_eq] at hwell'
    rw [show min x.size (4000 + 1) = x.size by omega] at K1
    rw [hwell'.1] at KP
    have hszz := hwell'.2
    have K2 := Lib.hid (fun W h => rdepth_any x.size x (Nat.le_refl _) (by omega) (.agg #[.bool l, .string b, .slice p n c]) W (HX W h))
    have K3 := Lib.hid (fun W h => rwrite_any x.size x (Nat.le_refl _) (hw hwell'.1 hwell'.2) (.agg #[.bool l, .string b, .slice p n c]) W (HX W h))
    have hwl := hw hwell'.1 hwell'.2
    have HE0 : Hid (x.enc = if 8 < x.depth then ([], 5) else if 4000 < x.write.length then ([], 2) else (x.write, 0)) := Lib.hid (by rw [It.enc, if_neg (by rw [hwell]; simp)])
    have hz : (mkS x.write).size = x.write.length := mk_size _
    clear hx HX hw hwell hwell'
    generalize hd : x.depth = d at *
    generalize hxw : x.write = xw at *
    clear hd hxw
    generalize xw.length = n' at *
    generalize x.size = sz at *
    by_cases hd : 8 < d
    · have HE : Hid (x.enc = ([], 5)) := Lib.hid (by rw [HE0.out, if_pos hd])
      obtain ⟨a0, a1, a2, af0, af1, af2⟩ := L.out.c3
      go_enter Try.func92, Try.ntmps92
      go_wp2_with fail
      refine (K1.out _ B.out).mono ?_
      rintro e w1 ⟨rfl, hb⟩
      clear a0 a1 a2 af0 af1 af2
      (replace L := Lib.hid (L.out.belowS hb); replace B := Lib.hid (B.out.trans (hb.mono B.out.size)); clear hb)
      obtain ⟨a0, a1, a2, af0, af1, af2⟩ := L.out.c3
      go_wp2_with fail
      refine (KP.out _ B.out).mono ?_
      rintro e w2 ⟨rfl, hb⟩
      clear a0 a1 a2 af0 af1 af2
      (replace L := Lib.hid (L.out.belowS hb); replace B := Lib.hid (B.out.trans (hb.mono B.out.size)); clear hb)
      obtain ⟨a0, a1, a2, af0, af1, af2⟩ := L.out.c3
      go_wp2_with fail
      refine (K2.out _ B.out).mono ?_
      rintro e w2 ⟨rfl, hb⟩
      (replace B := Lib.hid (B.out.trans (hb.mono B.out.size)); clear hb)
      go_wp2
      go_ret2
      rw [HE.out]
      exact ⟨rfl, B.out⟩
    · by_cases hn : 4000 < n'
      · have HE : Hid (x.enc = ([], 2)) := Lib.hid (by rw [HE0.out, if_neg hd, if_pos hn])
        obtain ⟨a0, a1, a2, af0, af1, af2⟩ := L.out.c3
        go_enter Try.func92, Try.ntmps92
        go_wp2_with fail
        refine (K1.out _ B.out).mono ?_
        rintro e w1 ⟨rfl, hb⟩
        clear a0 a1 a2 af0 af1 af2
        (replace L := Lib.hid (L.out.belowS hb); replace B := Lib.hid (B.out.trans (hb.mono B.out.size)); clear hb)
        obtain ⟨a0, a1, a2, af0, af1, af2⟩ := L.out.c3
        go_wp2_with fail
        refine (KP.out _ B.out).mono ?_
        rintro e w2 ⟨rfl, hb⟩
        clear a0 a1 a2 af0 af1 af2
        (replace L := Lib.hid (L.out.belowS hb); replace B := Lib.hid (B.out.trans (hb.mono B.out.size)); clear hb)
        obtain ⟨a0, a1, a2, af0, af1, af2⟩ := L.out.c3
        go_wp2_with fail
        refine (K2.out _ B.out).mono ?_
        rintro e w3 ⟨rfl, hb⟩
        clear a0 a1 a2 af0 af1 af2
        (replace L := Lib.hid (L.out.belowS hb); replace B := Lib.hid (B.out.trans (hb.mono B.out.size)); clear hb)
        obtain ⟨a0, a1, a2, af0, af1, af2⟩ := L.out.c3
        go_wp2_with fail
        refine (K3.out _ B.out).mono ?_
        rintro e w4 ⟨rfl, hb⟩
        (replace B := Lib.hid (B.out.trans (hb.mono B.out.size)); clear hb)
        go_wp2
        go_ret2
        rw [HE.out]
        exact ⟨rfl, B.out⟩
      · have HE : Hid (x.enc = (xw, 0)) := Lib.hid (by rw [HE0.out, if_neg hd, if_neg hn])
        obtain ⟨a0, a1, a2, af0, af1, af2⟩ := L.out.c3
        go_enter Try.func92, Try.ntmps92
        go_wp2_with fail
        refine (K1.out _ B.out).mono ?_
        rintro e w1 ⟨rfl, hb⟩
        clear a0 a1 a2 af0 af1 af2
        (replace L := Lib.hid (L.out.belowS hb); replace B := Lib.hid (B.out.trans (hb.mono B.out.size)); clear hb)
        obtain ⟨a0, a1, a2, af0, af1, af2⟩ := L.out.c3
        go_wp2_with fail
        refine (KP.out _ B.out).mono ?_
        rintro e w2 ⟨rfl, hb⟩
        clear a0 a1 a2 af0 af1 af2
        (replace L := Lib.hid (L.out.belowS hb); replace B := Lib.hid (B.out.trans (hb.mono B.out.size)); clear hb)
        obtain ⟨a0, a1, a2, af0, af1, af2⟩ := L.out.c3
        go_wp2_with fail
        refine (K2.out _ B.out).mono ?_
        rintro e w3 ⟨rfl, hb⟩
        clear a0 a1 a2 af0 af1 af2
        (replace L := Lib.hid (L.out.belowS hb); replace B := Lib.hid (B.out.trans (hb.mono B.out.size)); clear hb)
        obtain ⟨a0, a1, a2, af0, af1, af2⟩ := L.out.c3
        go_wp2_with fail
        refine (K3.out _ B.out).mono ?_
        rintro e w4 ⟨rfl, hb⟩
        (replace B := Lib.hid (B.out.trans (hb.mono B.out.size)); clear hb)
        go_wp2
        go_ret2
        rw [HE.out]
        exact ⟨rfl, B.out⟩
end Go.Proofs.Ythipnbiilobjeaa

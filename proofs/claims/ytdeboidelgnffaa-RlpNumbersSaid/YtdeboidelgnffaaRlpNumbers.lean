/- Rlp: RlpNumbers walked. -/
import Derived.Test.YtdeboidelgnffaaRlp15
import Derived.Test.YtdeboidelgnffaaRlpHeads
import Derived.Test.YtdeboidelgnffaaRlpLists
namespace Go.Proofs.Ytdeboidelgnffaa
open Go.RowKit

theorem kids_two {W : World} {g : Nat} {x : It} {l : Bool} {b : ByteArray} {p : Option Addr} {n c : Nat} (h : RowAt W g #[.bool l, .string b, .slice p n c, .bool l, .string b, .slice p n c] 24) (hx : ItemIs W x (.agg #[.bool l, .string b, .slice p n c])) :
    KidsIs W [x, x] (.slice (some ⟨g, 0, none⟩) 2 2) := by
  refine .inr ⟨⟨g, 0, none⟩, 2, 2, rfl, Nat.le_refl _, by omega, rfl, ?_⟩
  rw [KidsAt, KidsAt, KidsAt]
  refine ⟨⟨_, _, _, ?_, ?_, ?_, hx⟩, ⟨_, _, _, ?_, ?_, ?_, hx⟩, trivial⟩
  · have := h.cell 0; simpa [Addr.add] using this
  · have := h.cell 1; simpa [Addr.add] using this
  · have := h.cell 2; simpa [Addr.add] using this
  · have := h.cell 3; simpa [Addr.add] using this
  · have := h.cell 4; simpa [Addr.add] using this
  · have := h.cell 5; simpa [Addr.add] using this

theorem list_is {W : World} {ks : List It} {kv : Value} (h : KidsIs W ks kv) : ItemIs W (.mk true [] ks) (.agg #[.bool true, .string ⟨#[]⟩, kv]) := by
  rw [itemIs_iff]
  exact ⟨kv, rfl, by simp, h⟩

theorem value_number (n : Nat) (h : n < 18446744073709551616) : (It.mk false (dig n) []).value = (n, 0) := by
  have h8 := dig_len 8 n (by omega)
  rw [It.value, if_neg (by simp [canon_dig]; omega), val_dig]

set_option maxRecDepth 100000 in
set_option maxHeartbeats 2000000 in
theorem rlpNumbers_walk (w : World) (n0 : Int) (hn : (Lit.int .u64 n0).wf = true) (v : Value) (x : It) (hx : ItemIs w x v) :
    Calls Try.prog 7 #[.int .u64 n0, v] w fun e w' => e = .returned (.bool true) ∧ Below w.heap.size w w' := by
  obtain ⟨hn0, hn1⟩ := u64_bd hn
  obtain ⟨n, rfl⟩ := Int.eq_ofNat_of_zero_le hn0
  have hn2 : n < 18446744073709551616 := by omega
  clear hn hn0
  obtain ⟨⟨l, b, p, k, c⟩, rfl⟩ := itemIs_val hx
  have HX : ∀ W, Below w.heap.size w W → ItemIs W x (.agg #[.bool l, .string b, .slice p k c]) := fun W h => ItemIs.below h (Nat.le_refl _) _ _ hx
  have L : Hid (RowAt (w.alloc (ivO (l, b, p, k, c))) w.heap.size #[.bool l, .string b, .slice p k c] 24) := Lib.hid (RowAt.new _ _ _)
  have B : Hid (Below w.heap.size w (w.alloc (ivO (l, b, p, k, c)))) := Lib.hid ((Below.refl _ _).alloc (Nat.le_refl _) _)
  show Calls Try.prog 7 #[.int .u64 n, .agg #[.bool l, .string b, .slice p k c]] w _
  have HXH := Lib.hid HX
  have KF := Lib.hid (fun W h => few_any x (.agg #[.bool l, .string b, .slice p k c]) W (HX W h))
  have KV := Lib.hid (fun W h => value_any x (.agg #[.bool l, .string b, .slice p k c]) W (HX W h))
  have KR := Lib.hid (fun W h => rvalue_any x (.agg #[.bool l, .string b, .slice p k c]) W (HX W h))
  have KN := Lib.hid (fun W => number_any n W hn2)
  have KM := Lib.hid (fun W => rnumber_any n W hn2)
  have KD := Lib.hid (fun W => value_any (.mk false (dig n) []) _ W (leaf_is W (dig n) (by have := dig_len 8 n (by omega); omega)))
  rw [value_number n hn2] at KD
  have KL := Lib.hid (fun W => like_any 1 (.mk false (dig n) []) (.mk false (dig n) []) (by simp [It.size, sizes]) _ _ W (leaf_is W (dig n) (by have := dig_len 8 n (by omega); omega)) (leaf_is W (dig n) (by have := dig_len 8 n (by omega); omega)))
  rw [(like_iff _ _).2 rfl] at KL
  have KA := Lib.hid (fun W => alive_any W)
  simp only [itemV] at KD KL
  clear hx HX
  by_cases hf : x.size ≤ 400
  rotate_left
  · rw [decide_eq_false hf] at KF
    clear hf
    obtain ⟨a0, a1, a2, af0, af1, af2⟩ := L.out.c3
    go_enter Try.func7, Try.ntmps7
    go_wp2_with fail
    refine (KF.out _ B.out).mono ?_
    rintro e w1 ⟨rfl, hb⟩
    (replace B := Lib.hid (B.out.trans (hb.mono B.out.size)); clear hb)
    go_wp2_with fail
    refine (KA.out _).mono ?_
    rintro e w2 ⟨rfl, hb⟩
    (replace B := Lib.hid (B.out.trans (hb.mono B.out.size)); clear hb)
    go_wp2
    go_ret
    exact ⟨rfl, B.out⟩
  · rw [decide_eq_true hf] at KF
    have K2 : Hid (∀ W g1 g2, RowAt W g1 #[.bool l, .string b, .slice p k c, .bool l, .string b, .slice p k c] 24 → RowAt W g2 #[.bool l, .string b, .slice p k c, .bool l, .string b, .slice p k c] 24 → Below w.heap.size w W →
        Calls Try.prog 15 #[.agg #[.bool true, .string ⟨#[]⟩, .slice (some ⟨g1, 0, none⟩) 2 2], .agg #[.bool true, .string ⟨#[]⟩, .slice (some ⟨g2, 0, none⟩) 2 2]] W fun e w' => e = .returned (.bool true) ∧ Below W.heap.size W w') := Lib.hid fun W g1 g2 h1 h2 hb => by
      have := like_any (It.mk true [] [x, x]).size (.mk true [] [x, x]) (.mk true [] [x, x]) (Nat.le_refl _) _ _ W (list_is (kids_two h1 (HXH.out W hb))) (list_is (kids_two h2 (HXH.out W hb)))
      rwa [(like_iff _ _).2 rfl] at this
    clear hf HXH
    generalize x.value = xv at *
    obtain ⟨xv1, xv2⟩ := xv
    generalize mkS (dig n) = D at *
    simp only at KV KR KD
    obtain ⟨a0, a1, a2, af0, af1, af2⟩ := L.out.c3
    go_enter Try.func7, Try.ntmps7
    go_wp2_with fail
    refine (KF.out _ B.out).mono ?_
    rintro e w1 ⟨rfl, hb⟩
    clear a0 a1 a2 af0 af1 af2
    (replace L := Lib.hid (L.out.belowS hb); replace B := Lib.hid (B.out.trans (hb.mono B.out.size)); clear hb)
    obtain ⟨a0, a1, a2, af0, af1, af2⟩ := L.out.c3
    go_wp2_with fail
    refine (KV.out _ B.out).mono ?_
    rintro e w2 ⟨rfl, hb⟩
    clear a0 a1 a2 af0 af1 af2
    (replace L := Lib.hid (L.out.belowS hb); replace B := Lib.hid (B.out.trans (hb.mono B.out.size)); clear hb)
    obtain ⟨a0, a1, a2, af0, af1, af2⟩ := L.out.c3
    go_wp2_with fail
    refine (KR.out _ B.out).mono ?_
    rintro e w3 ⟨rfl, hb⟩
    clear a0 a1 a2 af0 af1 af2
    (replace L := Lib.hid (L.out.belowS hb); replace B := Lib.hid (B.out.trans (hb.mono B.out.size)); clear hb)
    go_wp2_with fail
    refine (KN.out _).mono ?_
    rintro e w4 ⟨rfl, hb⟩
    (replace L := Lib.hid (L.out.belowS hb); replace B := Lib.hid (B.out.trans (hb.mono B.out.size)); clear hb)
    go_wp2_with fail
    refine (KD.out _).mono ?_
    rintro e w5 ⟨rfl, hb⟩
    (replace L := Lib.hid (L.out.belowS hb); replace B := Lib.hid (B.out.trans (hb.mono B.out.size)); clear hb)
    obtain ⟨a0, a1, a2, af0, af1, af2⟩ := L.out.c3
    go_wp2_with fail
    refine (list_any _ _ _ _).mono ?_
    rintro e w6 ⟨rfl, hb⟩
    have R : Hid (RowAt w6 w5.heap.size #[.bool l, .string b, .slice p k c, .bool l, .string b, .slice p k c] 24) := Lib.hid ((RowAt.new _ _ _).belowS hb)
    clear a0 a1 a2 af0 af1 af2
    replace L := Lib.hid ((L.out.alloc _).belowS hb)
    replace B := Lib.hid ((B.out.alloc B.out.size _).trans (hb.mono (by have := B.out.size; simp; omega)))
    clear hb
    have T : Hid (RowAt (w6.alloc (.cells #[.bool true, .string ⟨#[]⟩, .slice (some ⟨w5.heap.size, 0, none⟩) 2 2] 24)) w6.heap.size #[.bool true, .string ⟨#[]⟩, .slice (some ⟨w5.heap.size, 0, none⟩) 2 2] 24) := Lib.hid (RowAt.new _ _ _)
    (replace L := Lib.hid (L.out.alloc (.cells #[.bool true, .string ⟨#[]⟩, .slice (some ⟨w5.heap.size, 0, none⟩) 2 2] 24)); replace R := Lib.hid (R.out.alloc (.cells #[.bool true, .string ⟨#[]⟩, .slice (some ⟨w5.heap.size, 0, none⟩) 2 2] 24)); replace B := Lib.hid (B.out.alloc B.out.size (.cells #[.bool true, .string ⟨#[]⟩, .slice (some ⟨w5.heap.size, 0, none⟩) 2 2] 24)))
    go_wp2_with fail
    refine (KA.out _).mono ?_
    rintro e w7 ⟨rfl, hb⟩
    (replace L := Lib.hid (L.out.belowS hb); replace R := Lib.hid (R.out.belowS hb); replace T := Lib.hid (T.out.belowS hb); replace B := Lib.hid (B.out.trans (hb.mono B.out.size)); clear hb)
    go_wp2_with fail
    refine (KN.out _).mono ?_
    rintro e w8 ⟨rfl, hb⟩
    (replace L := Lib.hid (L.out.belowS hb); replace R := Lib.hid (R.out.belowS hb); replace T := Lib.hid (T.out.belowS hb); replace B := Lib.hid (B.out.trans (hb.mono B.out.size)); clear hb)
    go_wp2_with fail
    refine (KM.out _).mono ?_
    rintro e w9 ⟨rfl, hb⟩
    (replace L := Lib.hid (L.out.belowS hb); replace R := Lib.hid (R.out.belowS hb); replace T := Lib.hid (T.out.belowS hb); replace B := Lib.hid (B.out.trans (hb.mono B.out.size)); clear hb)
    go_wp2_with fail
    refine (KL.out _).mono ?_
    rintro e w10 ⟨rfl, hb⟩
    (replace L := Lib.hid (L.out.belowS hb); replace R := Lib.hid (R.out.belowS hb); replace T := Lib.hid (T.out.belowS hb); replace B := Lib.hid (B.out.trans (hb.mono B.out.size)); clear hb)
    obtain ⟨a0, a1, a2, af0, af1, af2⟩ := L.out.c3
    obtain ⟨t0, t1, t2, tf0, tf1, tf2⟩ := T.out.c3
    go_wp2_with fail
    refine (K2.out _ _ _ (R.out.alloc _) (RowAt.new _ _ _) (B.out.alloc B.out.size _)).mono ?_
    rintro e w11 ⟨rfl, hb⟩
    have HB := Lib.hid ((B.out.alloc B.out.size _).trans (hb.mono (by have := B.out.size; simp; omega)))
    clear hb
    go_wp2
    go_ret
    exact ⟨rfl, HB.out⟩

abbrev ItemV (w : World) (v : Value) (x : It) : Prop := ItemIs w x v
theorem item_openS {H : Type} {enc : TypeId × Value → H} {w : World} {base : Nat} {v : Value} {d : DataW H} {p : List MemPlace} (hv : Value.okWide Try.prog w .any base 24 v) (h : DataW.Trod enc Try.prog w 0 (fun _ => true) true 24 v d p) (hl : ∀ x ∈ p, x.block < w.heap.size) :
    ∃ it, ItemV w v it := by
  obtain ⟨it, h1, _⟩ := item_open hv h hl
  exact ⟨it, h1⟩
end Go.Proofs.Ytdeboidelgnffaa

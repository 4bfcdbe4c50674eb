/- Rlp: contracts of both Encodes. -/
import Derived.Test.YtdeboidelgnffaaRlp10
import Derived.Test.YtdeboidelgnffaaRlp11
namespace Go.Proofs.Ytdeboidelgnffaa
open Go.RowKit

/-- What an item is encoded as: bytes, and the error's number. -/
def It.enc (x : It) : List UInt8 × Int :=
  if (x.pureB && decide (x.size ≤ 4000)) = false then ([], 1) else if 8 < x.depth then ([], 5) else if 4000 < x.write.length then ([], 2) else (x.write, 0)

set_option maxRecDepth 100000 in
set_option maxHeartbeats 1000000 in
theorem encode_any (x : It) (v : Value) (w : World) (hx : ItemIs w x v) (hw : x.pureB = true → x.size ≤ 4000 → x.write.length ≤ 1000000000) :
    Calls Try.prog 11 #[v] w fun e w' => e = .returned (.tuple #[.string (mkS x.enc.1), .int .i64 x.enc.2]) ∧ Below w.heap.size w w' := by
  obtain ⟨⟨l, b, p, n, c⟩, rfl⟩ := itemIs_val hx
  have HX : ∀ W, Below w.heap.size w W → ItemIs W x (.agg #[.bool l, .string b, .slice p n c]) := fun W h => ItemIs.below h (Nat.le_refl _) _ _ hx
  have HI := Lib.hid HX
  have L : Hid (RowAt (w.alloc (ivO (l, b, p, n, c))) w.heap.size #[.bool l, .string b, .slice p n c] 24) := Lib.hid (RowAt.new _ _ _)
  have B : Hid (Below w.heap.size w (w.alloc (ivO (l, b, p, n, c)))) := Lib.hid ((Below.refl _ _).alloc (Nat.le_refl _) _)
  show Calls Try.prog 11 #[.agg #[.bool l, .string b, .slice p n c]] w _
  have K1 := Lib.hid (fun W h => well_any x (.agg #[.bool l, .string b, .slice p n c]) W (HX W h))
  cases hwell : (x.pureB && decide (x.size ≤ 4000)) with
  | false =>
    have HE : Hid (x.enc = ([], 1)) := Lib.hid (by rw [It.enc, if_pos hwell])
    rw [hwell] at K1
    clear hx HX hw hwell
    obtain ⟨a0, a1, a2, af0, af1, af2⟩ := L.out.c3
    go_enter Try.func11, Try.ntmps11
    go_wp2_with fail
    refine (K1.out _ B.out).mono ?_
    rintro e w2 ⟨rfl, hb⟩
    (replace B := Lib.hid (B.out.trans (hb.mono B.out.size)); clear hb)
    go_wp2
    go_ret2
    rw [HE.out]
    exact ⟨rfl, B.out⟩
  | true =>
    rw [hwell] at K1
    have hwell' := hwell
    rw [Bool.and_eq_true, decide_eq_true_eq] at hwell'
    have K2 := Lib.hid (fun W h => deep_any x.size x (Nat.le_refl _) ((pureB_iff x).1 hwell'.1) (by omega) (.agg #[.bool l, .string b, .slice p n c]) W (HX W h))
    have K3 := Lib.hid (fun W h => write_any x.size x (Nat.le_refl _) (hw hwell'.1 hwell'.2) (.agg #[.bool l, .string b, .slice p n c]) W (HX W h))
    have hwl := hw hwell'.1 hwell'.2
    have HE0 : Hid (x.enc = if 8 < x.depth then ([], 5) else if 4000 < x.write.length then ([], 2) else (x.write, 0)) := Lib.hid (by rw [It.enc, if_neg (by rw [hwell]; simp)])
    have hz : (mkS x.write).size = x.write.length := mk_size _
    clear hx HX hw hwell hwell'
    generalize hd : x.depth = d at *
    generalize hxw : x.write = xw at *
    clear hd hxw
    generalize xw.length = n' at *
    by_cases hd : 8 < d
    · have HE : Hid (x.enc = ([], 5)) := Lib.hid (by rw [HE0.out, if_pos hd])
      obtain ⟨a0, a1, a2, af0, af1, af2⟩ := L.out.c3
      go_enter Try.func11, Try.ntmps11
      go_wp2_with fail
      refine (K1.out _ B.out).mono ?_
      rintro e w2 ⟨rfl, hb⟩
      clear a0 a1 a2 af0 af1 af2
      (replace L := Lib.hid (L.out.belowS hb); replace B := Lib.hid (B.out.trans (hb.mono B.out.size)); clear hb)
      obtain ⟨a0, a1, a2, af0, af1, af2⟩ := L.out.c3
      go_wp2_with fail
      refine (K2.out _ B.out).mono ?_
      rintro e w2 ⟨rfl, hb⟩
      (replace B := Lib.hid (B.out.trans (hb.mono B.out.size)); clear hb)
      go_wp2
      go_ret2
      rw [HE.out]
      exact ⟨rfl, B.out⟩
    · by_cases hn : 4000 < n'
      · have HE : Hid (x.enc = ([], 2)) := Lib.hid (by rw [HE0.out, if_neg hd, if_pos hn])
        obtain ⟨a0, a1, a2, af0, af1, af2⟩ := L.out.c3
        go_enter Try.func11, Try.ntmps11
        go_wp2_with fail
        refine (K1.out _ B.out).mono ?_
        rintro e w2 ⟨rfl, hb⟩
        clear a0 a1 a2 af0 af1 af2
        (replace L := Lib.hid (L.out.belowS hb); replace B := Lib.hid (B.out.trans (hb.mono B.out.size)); clear hb)
        obtain ⟨a0, a1, a2, af0, af1, af2⟩ := L.out.c3
        go_wp2_with fail
        refine (K2.out _ B.out).mono ?_
        rintro e w3 ⟨rfl, hb⟩
        clear a0 a1 a2 af0 af1 af2
        (replace L := Lib.hid (L.out.belowS hb); replace B := Lib.hid (B.out.trans (hb.mono B.out.size)); clear hb)
        obtain ⟨a0, a1, a2, af0, af1, af2⟩ := L.out.c3
        go_wp2_with fail
        refine (K3.out _ B.out).mono ?_
        rintro e w4 ⟨rfl, hb⟩
        (replace B := Lib.hid (B.out.trans (hb.mono B.out.size)); clear hb)
        go_wp2
        go_ret2
        rw [HE.out]
        exact ⟨rfl, B.out⟩
      · have HE : Hid (x.enc = (xw, 0)) := Lib.hid (by rw [HE0.out, if_neg hd, if_neg hn])
        obtain ⟨a0, a1, a2, af0, af1, af2⟩ := L.out.c3
        go_enter Try.func11, Try.ntmps11
        go_wp2_with fail
        refine (K1.out _ B.out).mono ?_
        rintro e w2 ⟨rfl, hb⟩
        clear a0 a1 a2 af0 af1 af2
        (replace L := Lib.hid (L.out.belowS hb); replace B := Lib.hid (B.out.trans (hb.mono B.out.size)); clear hb)
        obtain ⟨a0, a1, a2, af0, af1, af2⟩ := L.out.c3
        go_wp2_with fail
        refine (K2.out _ B.out).mono ?_
        rintro e w3 ⟨rfl, hb⟩
        clear a0 a1 a2 af0 af1 af2
        (replace L := Lib.hid (L.out.belowS hb); replace B := Lib.hid (B.out.trans (hb.mono B.out.size)); clear hb)
        obtain ⟨a0, a1, a2, af0, af1, af2⟩ := L.out.c3
        go_wp2_with fail
        refine (K3.out _ B.out).mono ?_
        rintro e w4 ⟨rfl, hb⟩
        (replace B := Lib.hid (B.out.trans (hb.mono B.out.size)); clear hb)
        go_wp2
        go_ret2
        rw [HE.out]
        exact ⟨rfl, B.out⟩
end Go.Proofs.Ytdeboidelgnffaa

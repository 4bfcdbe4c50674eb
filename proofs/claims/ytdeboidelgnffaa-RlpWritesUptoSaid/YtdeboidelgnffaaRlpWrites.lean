/- Rlp: RlpWrites walked. -/
import Derived.Test.YtdeboidelgnffaaRlp13
import Derived.Test.YtdeboidelgnffaaRlpRep
namespace Go.Proofs.Ytdeboidelgnffaa
open Go.RowKit

set_option maxRecDepth 100000 in
set_option maxHeartbeats 1000000 in
theorem rlpWrites_walk (w : World) (v : Value) (x : It) (hx : ItemIs w x v) (hw : x.write.length ≤ 1000000000) :
    Calls Try.prog 3 #[v] w fun e w' => e = .returned (.bool true) ∧ Below w.heap.size w w' := by
  obtain ⟨⟨l, b, p, n, c⟩, rfl⟩ := itemIs_val hx
  have HX : ∀ W, Below w.heap.size w W → ItemIs W x (.agg #[.bool l, .string b, .slice p n c]) := fun W h => ItemIs.below h (Nat.le_refl _) _ _ hx
  have L : Hid (RowAt (w.alloc (ivO (l, b, p, n, c))) w.heap.size #[.bool l, .string b, .slice p n c] 24) := Lib.hid (RowAt.new _ _ _)
  have B : Hid (Below w.heap.size w (w.alloc (ivO (l, b, p, n, c)))) := Lib.hid ((Below.refl _ _).alloc (Nat.le_refl _) _)
  show Calls Try.prog 3 #[.agg #[.bool l, .string b, .slice p n c]] w _
  have KM := Lib.hid (fun W h => many_any x (.agg #[.bool l, .string b, .slice p n c]) 4000 W (HX W h) (by omega))
  have KE := Lib.hid (fun W h => encode_any x (.agg #[.bool l, .string b, .slice p n c]) W (HX W h) (fun _ _ => hw))
  have KR := Lib.hid (fun W h => rencode_any x (.agg #[.bool l, .string b, .slice p n c]) W (HX W h) (fun _ _ => hw))
  have KF := Lib.hid (fun W h => few_any x (.agg #[.bool l, .string b, .slice p n c]) W (HX W h))
  have KA := Lib.hid (fun W => alive_any W)
  have HE0 : Hid (4000 < x.size → x.enc = ([], 1)) := Lib.hid (fun h => by rw [It.enc, if_pos]; simp; intro _; omega)
  clear hx HX hw
  by_cases h1 : 4000 < x.size
  · rw [show min x.size (4000 + 1) = 4001 by omega] at KM
    rw [HE0.out h1] at KE
    have hs : (mkS []).toList = [] := by rw [toList_bl, bl_mk]
    clear h1 KR KF HE0
    obtain ⟨a0, a1, a2, af0, af1, af2⟩ := L.out.c3
    go_enter Try.func3, Try.ntmps3
    go_wp2_with fail
    refine (KM.out _ B.out).mono ?_
    rintro e w1 ⟨rfl, hb⟩
    clear a0 a1 a2 af0 af1 af2
    (replace L := Lib.hid (L.out.belowS hb); replace B := Lib.hid (B.out.trans (hb.mono B.out.size)); clear hb)
    obtain ⟨a0, a1, a2, af0, af1, af2⟩ := L.out.c3
    go_wp2_with fail
    refine (KE.out _ B.out).mono ?_
    rintro e w2 ⟨rfl, hb⟩
    (replace B := Lib.hid (B.out.trans (hb.mono B.out.size)); clear hb)
    go_wp2_with fail
    refine (KA.out _).mono ?_
    rintro e w3 ⟨rfl, hb⟩
    (replace B := Lib.hid (B.out.trans (hb.mono B.out.size)); clear hb)
    go_wp2
    go_ret
    exact ⟨rfl, B.out⟩
  · rw [show min x.size (4000 + 1) = x.size by omega] at KM
    by_cases h2 : x.size ≤ 400
    · rw [decide_eq_true h2] at KF
      clear HE0
      generalize x.size = sz at *
      generalize x.enc = xe at *
      obtain ⟨xe1, xe2⟩ := xe
      generalize mkS xe1 = S at *
      clear h2
      obtain ⟨a0, a1, a2, af0, af1, af2⟩ := L.out.c3
      go_enter Try.func3, Try.ntmps3
      go_wp2_with fail
      refine (KM.out _ B.out).mono ?_
      rintro e w1 ⟨rfl, hb⟩
      clear a0 a1 a2 af0 af1 af2
      (replace L := Lib.hid (L.out.belowS hb); replace B := Lib.hid (B.out.trans (hb.mono B.out.size)); clear hb)
      obtain ⟨a0, a1, a2, af0, af1, af2⟩ := L.out.c3
      go_wp2_with fail
      refine (KF.out _ B.out).mono ?_
      rintro e w2 ⟨rfl, hb⟩
      clear a0 a1 a2 af0 af1 af2
      (replace L := Lib.hid (L.out.belowS hb); replace B := Lib.hid (B.out.trans (hb.mono B.out.size)); clear hb)
      obtain ⟨a0, a1, a2, af0, af1, af2⟩ := L.out.c3
      go_wp2_with fail
      refine (KE.out _ B.out).mono ?_
      rintro e w3 ⟨rfl, hb⟩
      clear a0 a1 a2 af0 af1 af2
      (replace L := Lib.hid (L.out.belowS hb); replace B := Lib.hid (B.out.trans (hb.mono B.out.size)); clear hb)
      obtain ⟨a0, a1, a2, af0, af1, af2⟩ := L.out.c3
      go_wp2_with fail
      refine (KR.out _ B.out).mono ?_
      rintro e w4 ⟨rfl, hb⟩
      (replace B := Lib.hid (B.out.trans (hb.mono B.out.size)); clear hb)
      go_wp2_with fail
      refine (KA.out _).mono ?_
      rintro e w5 ⟨rfl, hb⟩
      (replace B := Lib.hid (B.out.trans (hb.mono B.out.size)); clear hb)
      go_wp2
      go_ret
      exact ⟨rfl, B.out⟩
    · rw [decide_eq_false h2] at KF
      clear HE0 KE KR
      generalize x.size = sz at *
      clear h2
      obtain ⟨a0, a1, a2, af0, af1, af2⟩ := L.out.c3
      go_enter Try.func3, Try.ntmps3
      go_wp2_with fail
      refine (KM.out _ B.out).mono ?_
      rintro e w1 ⟨rfl, hb⟩
      clear a0 a1 a2 af0 af1 af2
      (replace L := Lib.hid (L.out.belowS hb); replace B := Lib.hid (B.out.trans (hb.mono B.out.size)); clear hb)
      obtain ⟨a0, a1, a2, af0, af1, af2⟩ := L.out.c3
      go_wp2_with fail
      refine (KF.out _ B.out).mono ?_
      rintro e w2 ⟨rfl, hb⟩
      (replace B := Lib.hid (B.out.trans (hb.mono B.out.size)); clear hb)
      go_wp2_with fail
      refine (KA.out _).mono ?_
      rintro e w3 ⟨rfl, hb⟩
      (replace B := Lib.hid (B.out.trans (hb.mono B.out.size)); clear hb)
      go_wp2
      go_ret
      exact ⟨rfl, B.out⟩
end Go.Proofs.Ytdeboidelgnffaa

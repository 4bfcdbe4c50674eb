/- Nibble: the reference's Unpack. -/
import Derived.Test.YtddeeejfmodgfaaNib7
namespace Go.Proofs.Ytddeeejfmodgfaa
open Go.RowKit

theorem bstr_inj {a b : List UInt8} (h : bstr a = bstr b) : a = b := by
  have := congrArg (fun x : ByteArray => x.data.toList) h
  simpa [bstr] using this
theorem bstr_data (s : ByteArray) : bstr s.data.toList = s := rfl

theorem pack_hit (s : ByteArray) (part : List UInt8) (ends : Bool) (h : packL part ends = s.data.toList) : packB (bstr part) ends = s := by
  rw [packB_eq]
  show bstr (packL part ends) = s
  rw [h]
  rfl

theorem pack_miss (s : ByteArray) (part : List UInt8) (ends : Bool) (h : packL part ends ≠ s.data.toList) : ((packB (bstr part) ends).toList == s.toList) = false := by
  have h' : packB (bstr part) ends ≠ s := by
    rw [packB_eq]
    intro e
    exact h (bstr_inj e)
  rw [ByteArray.toList_eq, ByteArray.toList_eq]
  have : (packB (bstr part) ends).data.toList ≠ s.data.toList := fun e => h' (ByteArray.ext (Array.toList_inj.1 e))
  simpa using this

theorem odd_iff (f x c : UInt8) (r : List UInt8) (s : List UInt8) (ho : ofL s = f :: x :: r) (hc : c.toNat < 16) : joinL (c :: x :: r) = s ↔ c = f := by
  have hs := joinL_ofL s
  have hsm := ofL_small s
  rw [ho] at hs hsm
  simp only [List.all_cons, Bool.and_eq_true, decide_eq_true_eq, UInt8.lt_iff_toNat_lt] at hsm
  have hf : f.toNat < 16 := hsm.1
  have hx : x.toNat < 16 := hsm.2.1
  constructor
  · intro h
    rw [← hs] at h
    simp only [joinL, List.cons.injEq, and_true] at h
    have := congrArg UInt8.toNat h
    apply UInt8.toNat_inj.1
    simp at this
    omega
  · rintro rfl
    exact hs

theorem even_iff (f x c : UInt8) (r : List UInt8) (s : List UInt8) (ho : ofL s = f :: x :: r) (hc : c.toNat < 16) : joinL (c :: 0 :: r) = s ↔ c = f ∧ x = 0 := by
  have hs := joinL_ofL s
  have hsm := ofL_small s
  rw [ho] at hs hsm
  simp only [List.all_cons, Bool.and_eq_true, decide_eq_true_eq, UInt8.lt_iff_toNat_lt] at hsm
  have hf : f.toNat < 16 := hsm.1
  have hx : x.toNat < 16 := hsm.2.1
  constructor
  · intro h
    rw [← hs] at h
    simp only [joinL, List.cons.injEq, and_true] at h
    have := congrArg UInt8.toNat h
    simp at this
    constructor <;> apply UInt8.toNat_inj.1
    · omega
    · simp; omega
  · rintro ⟨rfl, rfl⟩
    exact hs

set_option maxRecDepth 100000 in
set_option maxHeartbeats 4000000 in
theorem runpack_nil (w : World) : Calls Try.prog 34 #[.string ⟨#[]⟩] w fun e w' => e = .returned (.tuple #[.string ⟨#[]⟩, .bool false, .int .i64 4]) ∧ Below w.heap.size w w' := by
  have h := rof_any ⟨#[]⟩
  have e0 : ofB ⟨#[]⟩ = ⟨#[]⟩ := rfl
  rw [e0] at h
  have KO := Lib.hid h
  clear h e0
  go_enter Try.func34, Try.ntmps34
  go_wp2_with (first
    | (go_at_call 27; refine (KO.out _ (by decide)).mono ?_; rintro e w1 ⟨rfl, hb1⟩))
  refine wp_loop_rounds 1 ?_
  rw [rounds_succ]
  go_wp2
  go_ret3
  exact ⟨rfl, hb1⟩

set_option maxRecDepth 100000 in
set_option maxHeartbeats 4000000 in
theorem runpack_1 (s : ByteArray) (f x : UInt8) (r : List UInt8) (w : World) (hs : s.size ≤ 10000) (ho : ofB s = bstr (f :: x :: r)) (h1 : packB (bstr (x :: r)) false = s) :
    Calls Try.prog 34 #[.string s] w fun e w' => e = .returned (.tuple #[.string (bstr (x :: r)), .bool false, .int .i64 0]) ∧ Below w.heap.size w w' := by
  have KO := rof_any s
  rw [ho] at KO
  have z1 := bstr_size (f :: x :: r)
  have t1 := bstr_tail f (x :: r)
  have z2 := bstr_size (x :: r)
  have hlen : (f :: x :: r).length ≤ 20000 := by
    have := congrArg ByteArray.size ho
    rw [ofB_eq, bstr_size, bstr_size, ofL_length] at this
    simp at this ⊢
    omega
  have hlen2 : (x :: r).length ≤ 20000 := by simp at hlen ⊢; omega
  rw [← z1] at hlen
  rw [← z2] at hlen2
  have hge : 2 ≤ (bstr (f :: x :: r)).size := by rw [z1]; simp
  generalize bstr (f :: x :: r) = A at *
  generalize bstr (x :: r) = A1 at *
  have KP := fun w => rpack_any A1 false w (by omega)
  rw [h1] at KP
  have KP := Lib.hid KP
  have KO := Lib.hid KO
  have zI : (1 : Int) ≤ (A.size : Int) := by omega
  clear z1 z2 ho h1
  have HB0 := Lib.hid (Below.refl w.heap.size w)
  go_enter Try.func34, Try.ntmps34
  go_wp2_with (first
    | (go_at_call 27; refine (chainH (KO.out _ (by omega)) (by assumption)).mono ?_; rintro e wN ⟨rfl, HBN⟩))
  refine wp_loop_rounds 1 ?_
  rw [rounds_succ]
  go_wp2_with (first
    | (go_at_call 36; refine (chainH (KP.out _) (by assumption)).mono ?_; rintro e wN ⟨rfl, HBN⟩))
  go_ret3
  exact ⟨rfl, Hid.out (by assumption)⟩
theorem bstr_tail2 (x y : UInt8) (l : List UInt8) : (bstr (x :: y :: l)).extract 2 (bstr (x :: y :: l)).size = bstr l := by
  apply ByteArray.ext
  apply Array.toList_inj.1
  simp [bstr, ByteArray.size]

set_option maxRecDepth 100000 in
set_option maxHeartbeats 4000000 in
theorem runpack_2 (s : ByteArray) (f x : UInt8) (r : List UInt8) (w : World) (hs : s.size ≤ 10000) (ho : ofB s = bstr (f :: x :: r)) (h1 : ((packB (bstr (x :: r)) false).toList == s.toList) = false) (h2 : packB (bstr (x :: r)) true = s) :
    Calls Try.prog 34 #[.string s] w fun e w' => e = .returned (.tuple #[.string (bstr (x :: r)), .bool true, .int .i64 0]) ∧ Below w.heap.size w w' := by
  have KO := rof_any s
  rw [ho] at KO
  have z1 := bstr_size (f :: x :: r)
  have t1 := bstr_tail f (x :: r)
  have t2 := bstr_tail2 f x r
  have z2 := bstr_size (x :: r)
  have z3 := bstr_size r
  have hlen : (f :: x :: r).length ≤ 20000 := by
    have := congrArg ByteArray.size ho
    rw [ofB_eq, bstr_size, bstr_size, ofL_length] at this
    simp at this ⊢
    omega
  have hlen2 : (x :: r).length ≤ 20000 := by simp at hlen ⊢; omega
  have hlen3 : r.length ≤ 20000 := by simp at hlen; omega
  rw [← z1] at hlen
  rw [← z2] at hlen2
  rw [← z3] at hlen3
  have hge : 2 ≤ (bstr (f :: x :: r)).size := by rw [z1]; simp
  generalize bstr (f :: x :: r) = A at *
  generalize bstr (x :: r) = A1 at *
  generalize bstr r = A2 at *
  have KP0 := fun w => rpack_any A1 false w (by omega)
  generalize packB A1 false = P0 at *
  have KP0 := Lib.hid KP0
  have KP1 := fun w => rpack_any A1 true w (by omega)
  rw [h2] at KP1
  have KP1 := Lib.hid KP1
  have KO := Lib.hid KO
  have zI : (1 : Int) ≤ (A.size : Int) := by omega
  have zJ : (2 : Int) ≤ (A.size : Int) := by omega
  clear z1 z2 z3 ho h2
  have HB0 := Lib.hid (Below.refl w.heap.size w)
  go_enter Try.func34, Try.ntmps34
  go_wp2_with (first
    | (go_at_call 27; refine (chainH (KO.out _ (by omega)) (by assumption)).mono ?_; rintro e wN ⟨rfl, HBN⟩))
  refine wp_loop_rounds 1 ?_
  rw [rounds_succ]
  go_wp2_with (fail)
  refine (chainH (KP0.out _) (by assumption)).mono ?_
  rintro e v0 ⟨rfl, HBN0⟩
  go_wp2_with (fail)
  refine (chainH (KP1.out _) (by assumption)).mono ?_
  rintro e v1 ⟨rfl, HBN1⟩
  go_wp2_with (fail)
  go_ret3
  exact ⟨rfl, Hid.out (by assumption)⟩

set_option maxRecDepth 100000 in
set_option maxHeartbeats 4000000 in
theorem runpack_3 (s : ByteArray) (f x : UInt8) (r : List UInt8) (w : World) (hs : s.size ≤ 10000) (ho : ofB s = bstr (f :: x :: r)) (h1 : ((packB (bstr (x :: r)) false).toList == s.toList) = false) (h2 : ((packB (bstr (x :: r)) true).toList == s.toList) = false) (h3 : packB (bstr r) false = s) :
    Calls Try.prog 34 #[.string s] w fun e w' => e = .returned (.tuple #[.string (bstr r), .bool false, .int .i64 0]) ∧ Below w.heap.size w w' := by
  have KO := rof_any s
  rw [ho] at KO
  have z1 := bstr_size (f :: x :: r)
  have t1 := bstr_tail f (x :: r)
  have t2 := bstr_tail2 f x r
  have z2 := bstr_size (x :: r)
  have z3 := bstr_size r
  have hlen : (f :: x :: r).length ≤ 20000 := by
    have := congrArg ByteArray.size ho
    rw [ofB_eq, bstr_size, bstr_size, ofL_length] at this
    simp at this ⊢
    omega
  have hlen2 : (x :: r).length ≤ 20000 := by simp at hlen ⊢; omega
  have hlen3 : r.length ≤ 20000 := by simp at hlen; omega
  rw [← z1] at hlen
  rw [← z2] at hlen2
  rw [← z3] at hlen3
  have hge : 2 ≤ (bstr (f :: x :: r)).size := by rw [z1]; simp
  generalize bstr (f :: x :: r) = A at *
  generalize bstr (x :: r) = A1 at *
  generalize bstr r = A2 at *
  have KP0 := fun w => rpack_any A1 false w (by omega)
  generalize packB A1 false = P0 at *
  have KP0 := Lib.hid KP0
  have KP1 := fun w => rpack_any A1 true w (by omega)
  generalize packB A1 true = P1 at *
  have KP1 := Lib.hid KP1
  have KP2 := fun w => rpack_any A2 false w (by omega)
  rw [h3] at KP2
  have KP2 := Lib.hid KP2
  have KO := Lib.hid KO
  have zI : (1 : Int) ≤ (A.size : Int) := by omega
  have zJ : (2 : Int) ≤ (A.size : Int) := by omega
  clear z1 z2 z3 ho h3
  have HB0 := Lib.hid (Below.refl w.heap.size w)
  go_enter Try.func34, Try.ntmps34
  go_wp2_with (first
    | (go_at_call 27; refine (chainH (KO.out _ (by omega)) (by assumption)).mono ?_; rintro e wN ⟨rfl, HBN⟩))
  refine wp_loop_rounds 2 ?_
  rw [rounds_succ]
  go_wp2_with (fail)
  refine (chainH (KP0.out _) (by assumption)).mono ?_
  rintro e v0 ⟨rfl, HBN0⟩
  go_wp2_with (fail)
  refine (chainH (KP1.out _) (by assumption)).mono ?_
  rintro e v1 ⟨rfl, HBN1⟩
  go_wp2_with (fail)
  rw [rounds_succ]
  go_wp2_with (fail)
  refine (chainH (KP2.out _) (by assumption)).mono ?_
  rintro e v2 ⟨rfl, HBN2⟩
  go_wp2_with (fail)
  go_ret3
  exact ⟨rfl, Hid.out (by assumption)⟩

set_option maxRecDepth 100000 in
set_option maxHeartbeats 4000000 in
theorem runpack_4 (s : ByteArray) (f x : UInt8) (r : List UInt8) (w : World) (hs : s.size ≤ 10000) (ho : ofB s = bstr (f :: x :: r)) (h1 : ((packB (bstr (x :: r)) false).toList == s.toList) = false) (h2 : ((packB (bstr (x :: r)) true).toList == s.toList) = false) (h3 : ((packB (bstr r) false).toList == s.toList) = false) (h4 : packB (bstr r) true = s) :
    Calls Try.prog 34 #[.string s] w fun e w' => e = .returned (.tuple #[.string (bstr r), .bool true, .int .i64 0]) ∧ Below w.heap.size w w' := by
  have KO := rof_any s
  rw [ho] at KO
  have z1 := bstr_size (f :: x :: r)
  have t1 := bstr_tail f (x :: r)
  have t2 := bstr_tail2 f x r
  have z2 := bstr_size (x :: r)
  have z3 := bstr_size r
  have hlen : (f :: x :: r).length ≤ 20000 := by
    have := congrArg ByteArray.size ho
    rw [ofB_eq, bstr_size, bstr_size, ofL_length] at this
    simp at this ⊢
    omega
  have hlen2 : (x :: r).length ≤ 20000 := by simp at hlen ⊢; omega
  have hlen3 : r.length ≤ 20000 := by simp at hlen; omega
  rw [← z1] at hlen
  rw [← z2] at hlen2
  rw [← z3] at hlen3
  have hge : 2 ≤ (bstr (f :: x :: r)).size := by rw [z1]; simp
  generalize bstr (f :: x :: r) = A at *
  generalize bstr (x :: r) = A1 at *
  generalize bstr r = A2 at *
  have KP0 := fun w => rpack_any A1 false w (by omega)
  generalize packB A1 false = P0 at *
  have KP0 := Lib.hid KP0
  have KP1 := fun w => rpack_any A1 true w (by omega)
  generalize packB A1 true = P1 at *
  have KP1 := Lib.hid KP1
  have KP2 := fun w => rpack_any A2 false w (by omega)
  generalize packB A2 false = P2 at *
  have KP2 := Lib.hid KP2
  have KP3 := fun w => rpack_any A2 true w (by omega)
  rw [h4] at KP3
  have KP3 := Lib.hid KP3
  have KO := Lib.hid KO
  have zI : (1 : Int) ≤ (A.size : Int) := by omega
  have zJ : (2 : Int) ≤ (A.size : Int) := by omega
  clear z1 z2 z3 ho h4
  have HB0 := Lib.hid (Below.refl w.heap.size w)
  go_enter Try.func34, Try.ntmps34
  go_wp2_with (first
    | (go_at_call 27; refine (chainH (KO.out _ (by omega)) (by assumption)).mono ?_; rintro e wN ⟨rfl, HBN⟩))
  refine wp_loop_rounds 2 ?_
  rw [rounds_succ]
  go_wp2_with (fail)
  refine (chainH (KP0.out _) (by assumption)).mono ?_
  rintro e v0 ⟨rfl, HBN0⟩
  go_wp2_with (fail)
  refine (chainH (KP1.out _) (by assumption)).mono ?_
  rintro e v1 ⟨rfl, HBN1⟩
  go_wp2_with (fail)
  rw [rounds_succ]
  go_wp2_with (fail)
  refine (chainH (KP2.out _) (by assumption)).mono ?_
  rintro e v2 ⟨rfl, HBN2⟩
  go_wp2_with (fail)
  refine (chainH (KP3.out _) (by assumption)).mono ?_
  rintro e v3 ⟨rfl, HBN3⟩
  go_wp2_with (fail)
  go_ret3
  exact ⟨rfl, Hid.out (by assumption)⟩

set_option maxRecDepth 100000 in
set_option maxHeartbeats 4000000 in
theorem runpack_5 (s : ByteArray) (f x : UInt8) (r : List UInt8) (w : World) (hs : s.size ≤ 10000) (ho : ofB s = bstr (f :: x :: r)) (h1 : ((packB (bstr (x :: r)) false).toList == s.toList) = false) (h2 : ((packB (bstr (x :: r)) true).toList == s.toList) = false) (h3 : ((packB (bstr r) false).toList == s.toList) = false) (h4 : ((packB (bstr r) true).toList == s.toList) = false) :
    Calls Try.prog 34 #[.string s] w fun e w' => e = .returned (.tuple #[.string ⟨#[]⟩, .bool false, .int .i64 4]) ∧ Below w.heap.size w w' := by
  have KO := rof_any s
  rw [ho] at KO
  have z1 := bstr_size (f :: x :: r)
  have t1 := bstr_tail f (x :: r)
  have t2 := bstr_tail2 f x r
  have z2 := bstr_size (x :: r)
  have z3 := bstr_size r
  have hlen : (f :: x :: r).length ≤ 20000 := by
    have := congrArg ByteArray.size ho
    rw [ofB_eq, bstr_size, bstr_size, ofL_length] at this
    simp at this ⊢
    omega
  have hlen2 : (x :: r).length ≤ 20000 := by simp at hlen ⊢; omega
  have hlen3 : r.length ≤ 20000 := by simp at hlen; omega
  rw [← z1] at hlen
  rw [← z2] at hlen2
  rw [← z3] at hlen3
  have hge : 2 ≤ (bstr (f :: x :: r)).size := by rw [z1]; simp
  generalize bstr (f :: x :: r) = A at *
  generalize bstr (x :: r) = A1 at *
  generalize bstr r = A2 at *
  have KP0 := fun w => rpack_any A1 false w (by omega)
  generalize packB A1 false = P0 at *
  have KP0 := Lib.hid KP0
  have KP1 := fun w => rpack_any A1 true w (by omega)
  generalize packB A1 true = P1 at *
  have KP1 := Lib.hid KP1
  have KP2 := fun w => rpack_any A2 false w (by omega)
  generalize packB A2 false = P2 at *
  have KP2 := Lib.hid KP2
  have KP3 := fun w => rpack_any A2 true w (by omega)
  generalize packB A2 true = P3 at *
  have KP3 := Lib.hid KP3
  have KO := Lib.hid KO
  have zI : (1 : Int) ≤ (A.size : Int) := by omega
  have zJ : (2 : Int) ≤ (A.size : Int) := by omega
  clear z1 z2 z3 ho
  have HB0 := Lib.hid (Below.refl w.heap.size w)
  go_enter Try.func34, Try.ntmps34
  go_wp2_with (first
    | (go_at_call 27; refine (chainH (KO.out _ (by omega)) (by assumption)).mono ?_; rintro e wN ⟨rfl, HBN⟩))
  refine wp_loop_rounds 3 ?_
  rw [rounds_succ]
  go_wp2_with (fail)
  refine (chainH (KP0.out _) (by assumption)).mono ?_
  rintro e v0 ⟨rfl, HBN0⟩
  go_wp2_with (fail)
  refine (chainH (KP1.out _) (by assumption)).mono ?_
  rintro e v1 ⟨rfl, HBN1⟩
  go_wp2_with (fail)
  rw [rounds_succ]
  go_wp2_with (fail)
  refine (chainH (KP2.out _) (by assumption)).mono ?_
  rintro e v2 ⟨rfl, HBN2⟩
  go_wp2_with (fail)
  refine (chainH (KP3.out _) (by assumption)).mono ?_
  rintro e v3 ⟨rfl, HBN3⟩
  go_wp2_with (fail)
  rw [rounds_succ]
  go_wp2_with (fail)
  go_ret3
  exact ⟨rfl, Hid.out (by assumption)⟩

end Go.Proofs.Ytddeeejfmodgfaa

/- NibblePacks, NibbleBack: the walks. -/
import Derived.Test.YtddeeejfmodgfaaNib8
namespace Go.Proofs.Ytddeeejfmodgfaa
open Go.RowKit

theorem packL_odd (x : UInt8) (r : List UInt8) (ends : Bool) (h : r.length % 2 = 0) : packL (x :: r) ends = joinL ((if ends then 3 else 1) :: x :: r) := by
  unfold packL
  rw [if_neg (by simp only [List.length_cons]; omega)]
  rfl
theorem packL_even (r : List UInt8) (ends : Bool) (h : r.length % 2 = 0) : packL r ends = joinL ((if ends then 2 else 0) :: 0 :: r) := by
  unfold packL
  rw [if_pos h]
  rfl

theorem runpack_any (s : ByteArray) (w : World) (hs : s.size ≤ 10000) :
    Calls Try.prog 34 #[.string s] w fun e w' => e = .returned (unpackV (unpackL s.data.toList)) ∧ Below w.heap.size w w' := by
  rcases ofL_cases s.data.toList with h | ⟨f, x, r, ho, hf, hne⟩
  · have : s = ⟨#[]⟩ := by apply ByteArray.ext; apply Array.toList_inj.1; simpa using h
    subst this
    exact runpack_nil w
  · have hB : ofB s = bstr (f :: x :: r) := by rw [ofB_eq, ho]
    have hr : r.length % 2 = 0 := by
      have := ofL_length s.data.toList
      rw [ho] at this
      simp only [List.length_cons] at this
      omega
    have o1 := odd_iff f x 1 r _ ho (by decide)
    have o3 := odd_iff f x 3 r _ ho (by decide)
    have o0 := even_iff f x 0 r _ ho (by decide)
    have o2 := even_iff f x 2 r _ ho (by decide)
    unfold unpackL
    rw [ho]
    have p1 := packL_odd x r false hr
    have p3 := packL_odd x r true hr
    have p0 := packL_even r false hr
    have p2 := packL_even r true hr
    by_cases c1 : f = 1
    · simp only [c1, if_true]
      exact runpack_1 s f x r w hs hB (pack_hit _ _ _ (by rw [p1]; exact o1.2 c1.symm))
    · have m1 := pack_miss s (x :: r) false (by rw [p1]; exact fun e => c1 (o1.1 e).symm)
      by_cases c3 : f = 3
      · subst c3
        exact runpack_2 s 3 x r w hs hB m1 (pack_hit _ _ _ (by rw [p3]; exact o3.2 rfl))
      · have m3 := pack_miss s (x :: r) true (by rw [p3]; exact fun e => c3 (o3.1 e).symm)
        by_cases c0 : x = 0 ∧ f = 0
        · obtain ⟨rfl, rfl⟩ := c0
          exact runpack_3 s 0 0 r w hs hB m1 m3 (pack_hit _ _ _ (by rw [p0]; exact o0.2 ⟨rfl, rfl⟩))
        · have m0 := pack_miss s r false (by rw [p0]; exact fun e => c0 ⟨(o0.1 e).2, (o0.1 e).1.symm⟩)
          by_cases c2 : x = 0 ∧ f = 2
          · obtain ⟨rfl, rfl⟩ := c2
            exact runpack_4 s 2 0 r w hs hB m1 m3 m0 (pack_hit _ _ _ (by rw [p2]; exact o2.2 ⟨rfl, rfl⟩))
          · have m2 := pack_miss s r true (by rw [p2]; exact fun e => c2 ⟨(o2.1 e).2, (o2.1 e).1.symm⟩)
            have := runpack_5 s f x r w hs hB m1 m3 m0 m2
            simpa [c1, c3, c0, c2, unpackV] using this

set_option maxRecDepth 100000 in
set_option maxHeartbeats 4000000 in
theorem packs_any (a : ByteArray) (ends : Bool) (b : ByteArray) (w : World) (ha : a.size ≤ 9223372036854775807) (hb : b.size ≤ 9223372036854775807) :
    Calls Try.prog 7 #[.string a, .bool ends, .string b] w fun e w' => e = .returned (.bool true) ∧ Below w.heap.size w w' := by
  have K1 := fun w => short_any a w ha
  have K2 := fun w => short_any b w hb
  have za := shortB_size a
  have zb := shortB_size b
  generalize shortB a = a' at *
  generalize shortB b = b' at *
  have K1 := Lib.hid K1
  have K2 := Lib.hid K2
  have HB0 := Lib.hid (Below.refl w.heap.size w)
  have U1 := fun w => unpack_any b' w (by omega)
  have U2 := fun w => runpack_any b' w (by omega)
  cases hu : unpackL b'.data.toList with
  | none =>
    rw [hu] at U1 U2
    simp only [unpackV] at U1 U2
    have U1 := Lib.hid U1
    have U2 := Lib.hid U2
    clear hu
    cases hr : rightB a' with
    | false =>
      have HR := Lib.hid hr
      clear hr
      go_enter Try.func7, Try.ntmps7
      go_wp2_with fail
      refine (K1.out _).mono ?_
      rintro e w1 ⟨rfl, rfl⟩
      go_wp2_with fail
      refine (K2.out _).mono ?_
      rintro e w1 ⟨rfl, rfl⟩
      go_wp2_with (first
        | (go_at_call 32; refine (chainQ (pack_no _ _ _ (by omega) HR.out) (by assumption)).mono ?_; rintro e wN ⟨rfl, HBN⟩)
        | (go_at_call 33; refine (chainH (U1.out _) (by assumption)).mono ?_; rintro e wN ⟨rfl, HBN⟩)
        | (go_at_call 34; refine (chainH (U2.out _) (by assumption)).mono ?_; rintro e wN ⟨rfl, HBN⟩)
        | (go_at_call 17; refine (chainH (alive09 _) (by assumption)).mono ?_; rintro e wN ⟨rfl, HBN⟩)
        | (go_at_call 35; refine (chainQ (rpart_no _ _ (by omega) HR.out) (by assumption)).mono ?_; rintro e wN ⟨rfl, HBN⟩))
      go_ret
      exact ⟨rfl, Hid.out (by assumption)⟩
    | true =>
      have HR := Lib.hid hr
      clear hr
      go_enter Try.func7, Try.ntmps7
      go_wp2_with fail
      refine (K1.out _).mono ?_
      rintro e w1 ⟨rfl, rfl⟩
      go_wp2_with fail
      refine (K2.out _).mono ?_
      rintro e w1 ⟨rfl, rfl⟩
      go_wp2_with (first
        | (go_at_call 32; refine (chainH (pack_yes _ _ _ (by omega) HR.out) (by assumption)).mono ?_; rintro e wN ⟨rfl, HBN⟩)
        | (go_at_call 33; refine (chainH (U1.out _) (by assumption)).mono ?_; rintro e wN ⟨rfl, HBN⟩)
        | (go_at_call 34; refine (chainH (U2.out _) (by assumption)).mono ?_; rintro e wN ⟨rfl, HBN⟩)
        | (go_at_call 17; refine (chainH (alive09 _) (by assumption)).mono ?_; rintro e wN ⟨rfl, HBN⟩)
        | (go_at_call 35; refine (chainQ (rpart_yes _ _ (by omega) HR.out) (by assumption)).mono ?_; rintro e wN ⟨rfl, HBN⟩)
        | (go_at_call 36; refine (chainH (rpack_any _ _ _ (by omega)) (by assumption)).mono ?_; rintro e wN ⟨rfl, HBN⟩))
      go_ret
      exact ⟨rfl, Hid.out (by assumption)⟩
  | some pe =>
    obtain ⟨p, pe⟩ := pe
    rw [hu] at U1 U2
    simp only [unpackV] at U1 U2
    generalize bstr p = P at *
    have U1 := Lib.hid U1
    have U2 := Lib.hid U2
    clear hu
    cases hr : rightB a' with
    | false =>
      have HR := Lib.hid hr
      clear hr
      go_enter Try.func7, Try.ntmps7
      go_wp2_with fail
      refine (K1.out _).mono ?_
      rintro e w1 ⟨rfl, rfl⟩
      go_wp2_with fail
      refine (K2.out _).mono ?_
      rintro e w1 ⟨rfl, rfl⟩
      go_wp2_with (first
        | (go_at_call 32; refine (chainQ (pack_no _ _ _ (by omega) HR.out) (by assumption)).mono ?_; rintro e wN ⟨rfl, HBN⟩)
        | (go_at_call 33; refine (chainH (U1.out _) (by assumption)).mono ?_; rintro e wN ⟨rfl, HBN⟩)
        | (go_at_call 34; refine (chainH (U2.out _) (by assumption)).mono ?_; rintro e wN ⟨rfl, HBN⟩)
        | (go_at_call 17; refine (chainH (alive09 _) (by assumption)).mono ?_; rintro e wN ⟨rfl, HBN⟩)
        | (go_at_call 35; refine (chainQ (rpart_no _ _ (by omega) HR.out) (by assumption)).mono ?_; rintro e wN ⟨rfl, HBN⟩))
      go_ret
      exact ⟨rfl, Hid.out (by assumption)⟩
    | true =>
      have HR := Lib.hid hr
      clear hr
      go_enter Try.func7, Try.ntmps7
      go_wp2_with fail
      refine (K1.out _).mono ?_
      rintro e w1 ⟨rfl, rfl⟩
      go_wp2_with fail
      refine (K2.out _).mono ?_
      rintro e w1 ⟨rfl, rfl⟩
      go_wp2_with (first
        | (go_at_call 32; refine (chainH (pack_yes _ _ _ (by omega) HR.out) (by assumption)).mono ?_; rintro e wN ⟨rfl, HBN⟩)
        | (go_at_call 33; refine (chainH (U1.out _) (by assumption)).mono ?_; rintro e wN ⟨rfl, HBN⟩)
        | (go_at_call 34; refine (chainH (U2.out _) (by assumption)).mono ?_; rintro e wN ⟨rfl, HBN⟩)
        | (go_at_call 17; refine (chainH (alive09 _) (by assumption)).mono ?_; rintro e wN ⟨rfl, HBN⟩)
        | (go_at_call 35; refine (chainQ (rpart_yes _ _ (by omega) HR.out) (by assumption)).mono ?_; rintro e wN ⟨rfl, HBN⟩)
        | (go_at_call 36; refine (chainH (rpack_any _ _ _ (by omega)) (by assumption)).mono ?_; rintro e wN ⟨rfl, HBN⟩))
      go_ret
      exact ⟨rfl, Hid.out (by assumption)⟩

theorem nibblePacks_walk (W : World) (a : ByteArray) (ha : a.size ≤ maxLen) (ends : Bool) (b : ByteArray) (hb : b.size ≤ maxLen) :
    Calls Try.prog 7 #[.string a, .bool ends, .string b] W fun e W' => e = .returned (.bool true) ∧ Below W.heap.size W W' := by
  unfold maxLen at ha hb
  exact packs_any a ends b W ha hb
end Go.Proofs.Ytddeeejfmodgfaa

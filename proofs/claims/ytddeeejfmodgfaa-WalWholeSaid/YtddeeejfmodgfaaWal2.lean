/- Wal: which logs may be: the program's Right, the reference's Frames and Right. -/
import Derived.Test.YtddeeejfmodgfaaWal1
import Derived.Test.YtddeeejfmodgfaaWalP
import Derived.Test.YtddeeejfmodgfaaDev5
namespace Go.Proofs.Ytddeeejfmodgfaa
open Go.RowKit

/-- The value of a log. -/
abbrev logV (b : ByteArray) (n : Int) (v : Value) : Value := .agg #[.string b, .int .i64 n, v]

theorem scanned_ok {b : ByteArray} {ss : List ByteArray} (h : RecsOk ss ∧ framesOf (ss.map bl) = bl b) (hb : (b.size : Int) ≤ 200000) (w : World) :
    Calls Try.prog 29 #[.string b] w fun e w' => ∃ v, e = .returned (.tuple #[v, .int .i64 b.size]) ∧ StrRow w' v ss ∧ Below w.heap.size w w' := by
  have hs := (scan_iff b ss).2 h
  refine (crcScan_any b w (by omega)).mono fun e w' ⟨v, he, ho, hb⟩ => ?_
  rw [hs] at he ho
  simp only [map_bl_mk] at ho
  exact ⟨v, he, ho.row, hb⟩

set_option maxHeartbeats 1000000 in
theorem wright_yes (b : ByteArray) (n : Int) (v : Value) (ss : List ByteArray) (w : World) (hv : StrRow w v ss) (h : LogOk b n ss) :
    Calls Try.prog 44 #[logV b n v] w fun e w' => e = .returned (.bool true) ∧ Below w.heap.size w w' := by
  obtain ⟨⟨h1, h2, h3⟩, h4⟩ := h
  have KD := Lib.hid (fun w => dright_yes b n w h1 h2 h3)
  have KS := Lib.hid (fun w => scanned_ok h4 h1 w)
  have HV := Lib.hid hv
  clear h4 hv
  go_enter Try.func44, Try.ntmps44
  go_wp2_with fail
  refine (KD.out _).mono ?_
  rintro e w1 ⟨rfl, hb1⟩
  obtain ⟨hc1, hf1⟩ := bcell hb1
  have hz1 : w.heap.size < w1.heap.size := by have := hb1.size; simp at this; omega
  have B1 := Lib.hid (((Below.refl w.heap.size w).alloc (Nat.le_refl _) (.cells #[.string b, .int .i64 n, v] 49)).trans (hb1.mono (by simp)))
  have HB1 := Lib.hid hb1
  clear hb1
  go_wp2_with fail
  refine (KS.out _).mono ?_
  rintro e w2 ⟨v1, rfl, o1, hb2⟩
  obtain ⟨hc2, hf2⟩ := bcell hb2
  have hz2 : w.heap.size < w2.heap.size := Nat.lt_of_lt_of_le hz1 hb2.size
  have B2 := Lib.hid (B1.out.trans (hb2.mono (Nat.le_of_lt hz1)))
  have O1 := Lib.hid o1
  clear hb2 o1
  go_wp2_with fail
  refine (slEq_yes v1 v ss _ O1.out (HV.out.below B2.out (Nat.le_refl _))).mono ?_
  rintro e w3 ⟨rfl, hb3⟩
  have B3 := Lib.hid (B2.out.trans (hb3.mono (Nat.le_of_lt hz2)))
  clear hb3
  go_wp2_with fail
  go_ret
  exact ⟨rfl, B3.out⟩

set_option maxHeartbeats 1000000 in
theorem wright_no (b : ByteArray) (n : Int) (v : Value) (ss : List ByteArray) (w : World) (hb : (b.size : Int) ≤ 9223372036854775807) (hv : StrRow w v ss) (h : ¬ LogOk b n ss) :
    Calls Try.prog 44 #[logV b n v] w fun e w' => e = .returned (.bool false) ∧ Below w.heap.size w w' := by
  by_cases hd : (b.size : Int) ≤ 200000 ∧ 0 ≤ n ∧ n ≤ (b.size : Int)
  · have hs : scanL (bl b) ≠ (ss.map bl, b.size) := fun e => h ⟨hd, (scan_iff b ss).1 e⟩
    obtain ⟨h1, h2, h3⟩ := hd
    have KD := Lib.hid (fun w => dright_yes b n w h1 h2 h3)
    have KS := fun w => crcScan_any b w (by omega)
    have HV := Lib.hid hv
    unfold Scanned at KS
    generalize scanL (bl b) = R at *
    obtain ⟨R1, k⟩ := R
    simp only at KS
    have hs : k = b.size → R1.map mkS ≠ ss := fun e1 e2 => hs (by rw [e1, ← e2, map_mk_bl])
    generalize R1.map mkS = L at *
    have KS := Lib.hid KS
    have HS := Lib.hid hs
    clear hv h hs
    by_cases hk : k = b.size
    · have HK := Lib.hid hk
      have hq : ((k : Int) == (b.size : Int)) = true := by simp [hk]
      clear hk
      go_enter Try.func44, Try.ntmps44
      go_wp2_with fail
      refine (KD.out _).mono ?_
      rintro e w1 ⟨rfl, hb1⟩
      obtain ⟨hc1, hf1⟩ := bcell hb1
      have hz1 : w.heap.size < w1.heap.size := by have := hb1.size; simp at this; omega
      have B1 := Lib.hid (((Below.refl w.heap.size w).alloc (Nat.le_refl _) (.cells #[.string b, .int .i64 n, v] 49)).trans (hb1.mono (by simp)))
      clear hb1
      go_wp2_with fail
      refine (KS.out _).mono ?_
      rintro e w2 ⟨v1, rfl, o1, hb2⟩
      obtain ⟨hc2, hf2⟩ := bcell hb2
      have hz2 : w.heap.size < w2.heap.size := Nat.lt_of_lt_of_le hz1 hb2.size
      have B2 := Lib.hid (B1.out.trans (hb2.mono (Nat.le_of_lt hz1)))
      have O1 := Lib.hid o1.row
      clear hb2 o1
      go_wp2_with fail
      refine (slEq_no v1 v L ss _ O1.out (HV.out.below B2.out (Nat.le_refl _)) (HS.out HK.out)).mono ?_
      rintro e w3 ⟨rfl, hb3⟩
      have B3 := Lib.hid (B2.out.trans (hb3.mono (Nat.le_of_lt hz2)))
      clear hb3
      go_wp2_with fail
      go_ret
      exact ⟨rfl, B3.out⟩
    · have hq : ((k : Int) == (b.size : Int)) = false := by simp; omega
      clear hk
      go_enter Try.func44, Try.ntmps44
      go_wp2_with fail
      refine (KD.out _).mono ?_
      rintro e w1 ⟨rfl, hb1⟩
      obtain ⟨hc1, hf1⟩ := bcell hb1
      have hz1 : w.heap.size < w1.heap.size := by have := hb1.size; simp at this; omega
      have B1 := Lib.hid (((Below.refl w.heap.size w).alloc (Nat.le_refl _) (.cells #[.string b, .int .i64 n, v] 49)).trans (hb1.mono (by simp)))
      clear hb1
      go_wp2_with fail
      refine (KS.out _).mono ?_
      rintro e w2 ⟨v1, rfl, o1, hb2⟩
      obtain ⟨hc2, hf2⟩ := bcell hb2
      have B2 := Lib.hid (B1.out.trans (hb2.mono (Nat.le_of_lt hz1)))
      clear hb2 o1
      go_wp2_with fail
      go_ret
      exact ⟨rfl, B2.out⟩
  · have KD := Lib.hid (fun w => dright_no b n w hb (by omega))
    clear hd h
    go_enter Try.func44, Try.ntmps44
    go_wp2_with fail
    refine (KD.out _).mono ?_
    rintro e w1 ⟨rfl, hb1⟩
    have B1 := Lib.hid (((Below.refl w.heap.size w).alloc (Nat.le_refl _) (.cells #[.string b, .int .i64 n, v] 49)).trans (hb1.mono (by simp)))
    clear hb1
    go_wp2_with fail
    go_ret
    exact ⟨rfl, B1.out⟩
end Go.Proofs.Ytddeeejfmodgfaa

/- Wal: the reference's Frames and Right. -/
import Derived.Test.YtddeeejfmodgfaaWal2
namespace Go.Proofs.Ytddeeejfmodgfaa
open Go.RowKit

theorem first_bad : ∀ (ss : List ByteArray), ¬ RecsOk ss → ∃ i, i < ss.length ∧ ¬ (1 ≤ (ss.getD i ByteArray.empty).size ∧ (ss.getD i ByteArray.empty).size ≤ 4000) ∧ ∀ j, j < i → 1 ≤ (ss.getD j ByteArray.empty).size ∧ (ss.getD j ByteArray.empty).size ≤ 4000
  | [], h => absurd (fun s hs => by cases hs) h
  | x :: l, h => by
    by_cases hx : 1 ≤ x.size ∧ x.size ≤ 4000
    · have hl : ¬ RecsOk l := fun hl => h (fun s hs => by
        rcases List.mem_cons.1 hs with rfl | hs
        · exact hx
        · exact hl s hs)
      obtain ⟨i, h1, h2, h3⟩ := first_bad l hl
      refine ⟨i + 1, by simpa using h1, by simpa using h2, fun j hj => ?_⟩
      cases j with
      | zero => exact hx
      | succ j => simpa using h3 j (by omega)
    · exact ⟨0, by simp, by simpa using hx, fun j hj => by omega⟩

theorem recsOk_at {ss : List ByteArray} (h : RecsOk ss) {i : Nat} (hi : i < ss.length) : 1 ≤ (ss.getD i ByteArray.empty).size ∧ (ss.getD i ByteArray.empty).size ≤ 4000 := by
  rw [List.getD, List.getElem?_eq_getElem hi]
  exact h _ (List.getElem_mem hi)

theorem frames_step {ss : List ByteArray} {k : Nat} (h : k < ss.length) : framesOf ((ss.take (k + 1)).map bl) = framesOf ((ss.take k).map bl) ++ frameL (bl (ss.getD k ByteArray.empty)) := by
  have e : ss.take (k + 1) = ss.take k ++ [ss.getD k ByteArray.empty] := by
    rw [List.take_add_one, List.getElem?_eq_getElem h, List.getD, List.getElem?_eq_getElem h]
    rfl
  rw [e, List.map_append, List.map_cons, List.map_nil, framesOf_snoc]

theorem frames_size {ss : List ByteArray} {k : Nat} (hl : ∀ j, j < k → (ss.getD j ByteArray.empty).size ≤ 4000) : (framesOf ((ss.take k).map bl)).length ≤ 4006 * k := by
  have h := framesOf_le ((ss.take k).map bl) 4000 (fun r hr => by
    obtain ⟨s, hs, rfl⟩ := List.mem_map.1 hr
    rw [bl_length]
    obtain ⟨j, hj, rfl⟩ := List.mem_iff_getElem.1 hs
    rw [List.length_take] at hj
    have := hl j (by omega)
    rwa [List.getD, List.getElem?_eq_getElem (show j < ss.length by omega), Option.getD_some, ← List.getElem_take (j := k)] at this)
  have h2 : ((ss.take k).map bl).length ≤ k := by rw [List.length_map, List.length_take]; omega
  have := Nat.mul_le_mul_left (4000 + 6) h2
  omega

set_option maxHeartbeats 1000000 in
theorem frames_yes (v : Value) (ss : List ByteArray) (w : World) (hv : StrRow w v ss) (h : RecsOk ss) (hn : ss.length ≤ 100) :
    Calls Try.prog 53 #[v] w fun e w' => e = .returned (.tuple #[.string (mkS (framesOf (ss.map bl))), .bool true]) ∧ Below w.heap.size w w' := by
  obtain ⟨p, cap, rfl, h1, h2, _, hc⟩ := strRow_slice hv
  have HC := Lib.hid hc
  have HR := Lib.hid (fun k hk => recsOk_at h (i := k) hk)
  have HS := Lib.hid (fun k hk => frames_step (ss := ss) (k := k) hk)
  have hall : framesOf ((ss.take ss.length).map bl) = framesOf (ss.map bl) := by rw [List.take_length]
  have HA := Lib.hid hall
  have hzz : ∀ k, k ≤ ss.length → (framesOf ((ss.take k).map bl)).length ≤ 4006 * k := fun k hk => frames_size (fun j hj => (recsOk_at h (Nat.lt_of_lt_of_le hj hk)).2)
  have HZ := Lib.hid hzz
  have h0 : framesOf ((ss.take 0).map bl) = [] := rfl
  have H0 := Lib.hid h0
  unfold maxLen at h2
  generalize hl : ss.length = len at *
  clear hc h hv hall h0 hl hzz
  go_enter Try.func53, Try.ntmps53
  go_wp2
  go_loopw [4, 9] (fun t c wr => ∃ k : Nat, k ≤ len ∧ c = .int .i64 k ∧ t = .string (mkS (framesOf ((ss.take k).map bl))) ∧ Hid (Below w.heap.size w wr)) (fun _ c _ => len - (intOf c).toNat)
  case atStart => exact ⟨0, Nat.zero_le _, rfl, by rw [H0.out]; rfl, Lib.hid (Below.refl _ _)⟩
  case round =>
    obtain ⟨k, hk, rfl, rfl, HB⟩ := hrel
    by_cases hlt : k < len
    · obtain ⟨a, rfl, c1⟩ := HC.out k hlt
      have c1 : wr.cell? (a.add k) = some (.string (ss.getD k ByteArray.empty)) := by rw [HB.out.cell (block_lt_of_cell c1)]; exact c1
      have hr := HR.out k hlt
      have hz := HZ.out k hk
      have zA : (mkS (framesOf ((ss.take k).map bl))).size ≤ 4006 * k := by rw [mk_size]; exact hz
      have hst := HS.out k hlt
      have hz2 : ∀ s : ByteArray, s.size ≤ 4000 → (mkS (frameL (bl s))).size ≤ 4006 := fun s hs => by rw [mk_size, frameL_length, bl_length]; omega
      generalize ss.getD k ByteArray.empty = x at *
      have zF := hz2 x hr.2
      have KI := fun w => isRec_any x w (by omega)
      rw [decide_eq_true hr] at KI
      have KI := Lib.hid KI
      have KF := Lib.hid (fun w => rcrcFrame_any x w hr.2)
      have HST : Hid (mkS (framesOf ((ss.take (k + 1)).map bl)) = mkS (framesOf ((ss.take k).map bl)) ++ mkS (frameL (bl x))) := Lib.hid (by rw [mk_append, hst])
      obtain ⟨hr1, hr2⟩ := hr
      clear hst hz hz2
      generalize framesOf ((ss.take k).map bl) = A at *
      generalize mkS (frameL (bl x)) = F at *
      generalize mkS A = A' at *
      go_wp2_with fail
      refine (KI.out _).mono ?_
      rintro e w1 ⟨rfl, rfl⟩
      go_wp2_with fail
      refine (chainH (KF.out _) HB).mono ?_
      rintro e w1 ⟨rfl, HB1⟩
      go_wp2_with fail
      go_roundw
      case rel => exact ⟨k + 1, by omega, by go_num, by rw [HST.out], HB1⟩
      case measure => simp [intOf]; omega
    · obtain rfl : k = len := by omega
      go_wp2
      go_ret2
      exact ⟨by rw [HA.out]; rfl, HB.out⟩

set_option maxHeartbeats 1000000 in
theorem frames_no (v : Value) (ss : List ByteArray) (w : World) (hv : StrRow w v ss) (h : ¬ RecsOk ss) (hn : ss.length ≤ 100) (hsz : ∀ i, (ss.getD i ByteArray.empty).size ≤ 9223372036854775807) :
    Calls Try.prog 53 #[v] w fun e w' => e = .returned (.tuple #[.string ⟨#[]⟩, .bool false]) ∧ Below w.heap.size w w' := by
  obtain ⟨p, cap, rfl, h1, h2, _, hc⟩ := strRow_slice hv
  obtain ⟨i, i1, i2, i3⟩ := first_bad ss h
  have HC := Lib.hid hc
  have HR := Lib.hid i3
  have HBD := Lib.hid i2
  have HSZ := Lib.hid hsz
  have hzz : ∀ k, k ≤ i → (framesOf ((ss.take k).map bl)).length ≤ 4006 * k := fun k hk => frames_size (fun j hj => (i3 j (Nat.lt_of_lt_of_le hj hk)).2)
  have HZ := Lib.hid hzz
  have HS := Lib.hid (fun k hk => frames_step (ss := ss) (k := k) hk)
  have h0 : framesOf ((ss.take 0).map bl) = [] := rfl
  have H0 := Lib.hid h0
  unfold maxLen at h2
  generalize hl : ss.length = len at *
  clear hc h hv hl i2 i3 hsz h0 hzz
  go_enter Try.func53, Try.ntmps53
  go_wp2
  go_loopw [4, 9] (fun t c wr => ∃ k : Nat, k ≤ i ∧ c = .int .i64 k ∧ t = .string (mkS (framesOf ((ss.take k).map bl))) ∧ Hid (Below w.heap.size w wr)) (fun _ c _ => len - (intOf c).toNat)
  case atStart => exact ⟨0, Nat.zero_le _, rfl, by rw [H0.out]; rfl, Lib.hid (Below.refl _ _)⟩
  case round =>
    obtain ⟨k, hk, rfl, rfl, HB⟩ := hrel
    have hll : k < len := by omega
    obtain ⟨a, rfl, c1⟩ := HC.out k hll
    have c1 : wr.cell? (a.add k) = some (.string (ss.getD k ByteArray.empty)) := by rw [HB.out.cell (block_lt_of_cell c1)]; exact c1
    by_cases hlt : k < i
    · have hr := HR.out k hlt
      have hz := HZ.out k hk
      have zA : (mkS (framesOf ((ss.take k).map bl))).size ≤ 4006 * k := by rw [mk_size]; exact hz
      have hst := HS.out k hll
      have hz2 : ∀ s : ByteArray, s.size ≤ 4000 → (mkS (frameL (bl s))).size ≤ 4006 := fun s hs => by rw [mk_size, frameL_length, bl_length]; omega
      generalize ss.getD k ByteArray.empty = x at *
      have zF := hz2 x hr.2
      have KI := fun w => isRec_any x w (by omega)
      rw [decide_eq_true hr] at KI
      have KI := Lib.hid KI
      have KF := Lib.hid (fun w => rcrcFrame_any x w hr.2)
      have HST : Hid (mkS (framesOf ((ss.take (k + 1)).map bl)) = mkS (framesOf ((ss.take k).map bl)) ++ mkS (frameL (bl x))) := Lib.hid (by rw [mk_append, hst])
      obtain ⟨hr1, hr2⟩ := hr
      clear hst hz hz2
      generalize framesOf ((ss.take k).map bl) = A at *
      generalize mkS (frameL (bl x)) = F at *
      generalize mkS A = A' at *
      go_wp2_with fail
      refine (KI.out _).mono ?_
      rintro e w1 ⟨rfl, rfl⟩
      go_wp2_with fail
      refine (chainH (KF.out _) HB).mono ?_
      rintro e w1 ⟨rfl, HB1⟩
      go_wp2_with fail
      go_roundw
      case rel => exact ⟨k + 1, by omega, by go_num, by rw [HST.out], HB1⟩
      case measure => simp [intOf]; omega
    · obtain rfl : k = i := by omega
      have hbad := HBD.out
      have hs := HSZ.out k
      generalize ss.getD k ByteArray.empty = x at *
      have KI := fun w => isRec_any x w hs
      rw [decide_eq_false hbad] at KI
      have KI := Lib.hid KI
      clear hbad
      go_wp2_with fail
      refine (KI.out _).mono ?_
      rintro e w1 ⟨rfl, rfl⟩
      go_wp2_with fail
      go_ret2
      exact ⟨rfl, HB.out⟩

set_option maxHeartbeats 1000000 in
theorem rlogRight_yes (b : ByteArray) (n : Int) (v : Value) (ss : List ByteArray) (w : World) (hv : StrRow w v ss) (h : LogOk b n ss) (hn : ss.length ≤ 100) :
    Calls Try.prog 45 #[logV b n v] w fun e w' => e = .returned (.bool true) ∧ Below w.heap.size w w' := by
  obtain ⟨⟨h1, h2, h3⟩, h4, h5⟩ := h
  have KD := Lib.hid (fun w => rright_yes b n w h1 h2 h3)
  have KF := Lib.hid (fun w hv => frames_yes v ss w hv h4 hn)
  rw [h5, mk_bl] at KF
  have HV := Lib.hid (hv.below ((Below.refl w.heap.size w).alloc (Nat.le_refl _) (.cells #[.string b, .int .i64 n, v] 49)) (Nat.le_refl _))
  clear h4 h5 hv
  go_enter Try.func45, Try.ntmps45
  go_wp2_with fail
  refine (KF.out _ HV.out).mono ?_
  rintro e w1 ⟨rfl, hb1⟩
  obtain ⟨hc1, hf1⟩ := bcell hb1
  have hz1 : w.heap.size < w1.heap.size := by have := hb1.size; simp at this; omega
  have B1 := Lib.hid (((Below.refl w.heap.size w).alloc (Nat.le_refl _) (.cells #[.string b, .int .i64 n, v] 49)).trans (hb1.mono (by simp)))
  clear hb1
  go_wp2_with fail
  refine (KD.out _).mono ?_
  rintro e w2 ⟨rfl, hb2⟩
  obtain ⟨hc2, hf2⟩ := bcell hb2
  have hz2 : w.heap.size < w2.heap.size := Nat.lt_of_lt_of_le hz1 hb2.size
  have B2 := Lib.hid (B1.out.trans (hb2.mono (Nat.le_of_lt hz1)))
  clear hb2
  go_wp2_with fail
  go_ret
  exact ⟨by simp, B2.out⟩

set_option maxHeartbeats 1000000 in
theorem rlogRight_no (b : ByteArray) (n : Int) (v : Value) (ss : List ByteArray) (w : World) (hb : (b.size : Int) ≤ 9223372036854775807) (hv : StrRow w v ss) (h : ¬ LogOk b n ss) (hn : ss.length ≤ 100) (hsz : ∀ i, (ss.getD i ByteArray.empty).size ≤ 9223372036854775807) :
    Calls Try.prog 45 #[logV b n v] w fun e w' => e = .returned (.bool false) ∧ Below w.heap.size w w' := by
  have HV := Lib.hid (hv.below ((Below.refl w.heap.size w).alloc (Nat.le_refl _) (.cells #[.string b, .int .i64 n, v] 49)) (Nat.le_refl _))
  by_cases h4 : RecsOk ss
  · have KF := Lib.hid (fun w hv => frames_yes v ss w hv h4 hn)
    by_cases hd : (b.size : Int) ≤ 200000 ∧ 0 ≤ n ∧ n ≤ (b.size : Int)
    · have hne : mkS (framesOf (ss.map bl)) ≠ b := fun e => h ⟨hd, h4, by rw [← e, bl_mk]⟩
      have hq := seq_false hne
      generalize mkS (framesOf (ss.map bl)) = F at *
      obtain ⟨h1, h2, h3⟩ := hd
      have KD := Lib.hid (fun w => rright_yes b n w h1 h2 h3)
      clear h4 hv h hsz hne
      go_enter Try.func45, Try.ntmps45
      go_wp2_with fail
      refine (KF.out _ HV.out).mono ?_
      rintro e w1 ⟨rfl, hb1⟩
      obtain ⟨hc1, hf1⟩ := bcell hb1
      have hz1 : w.heap.size < w1.heap.size := by have := hb1.size; simp at this; omega
      have B1 := Lib.hid (((Below.refl w.heap.size w).alloc (Nat.le_refl _) (.cells #[.string b, .int .i64 n, v] 49)).trans (hb1.mono (by simp)))
      clear hb1
      go_wp2_with fail
      refine (KD.out _).mono ?_
      rintro e w2 ⟨rfl, hb2⟩
      obtain ⟨hc2, hf2⟩ := bcell hb2
      have B2 := Lib.hid (B1.out.trans (hb2.mono (Nat.le_of_lt hz1)))
      clear hb2
      go_wp2_with fail
      go_ret
      exact ⟨rfl, B2.out⟩
    · have KD := Lib.hid (fun w => rright_no b n w hb (by omega))
      clear h4 hv h hsz hd
      generalize mkS (framesOf (ss.map bl)) = F at *
      go_enter Try.func45, Try.ntmps45
      go_wp2_with fail
      refine (KF.out _ HV.out).mono ?_
      rintro e w1 ⟨rfl, hb1⟩
      obtain ⟨hc1, hf1⟩ := bcell hb1
      have hz1 : w.heap.size < w1.heap.size := by have := hb1.size; simp at this; omega
      have B1 := Lib.hid (((Below.refl w.heap.size w).alloc (Nat.le_refl _) (.cells #[.string b, .int .i64 n, v] 49)).trans (hb1.mono (by simp)))
      clear hb1
      go_wp2_with fail
      refine (KD.out _).mono ?_
      rintro e w2 ⟨rfl, hb2⟩
      have B2 := Lib.hid (B1.out.trans (hb2.mono (Nat.le_of_lt hz1)))
      clear hb2
      go_wp2_with fail
      go_ret
      exact ⟨rfl, B2.out⟩
  · have KF := Lib.hid (fun w hv => frames_no v ss w hv h4 hn hsz)
    clear h4 hv h hsz
    go_enter Try.func45, Try.ntmps45
    go_wp2_with fail
    refine (KF.out _ HV.out).mono ?_
    rintro e w1 ⟨rfl, hb1⟩
    have B1 := Lib.hid (((Below.refl w.heap.size w).alloc (Nat.le_refl _) (.cells #[.string b, .int .i64 n, v] 49)).trans (hb1.mono (by simp)))
    clear hb1
    go_wp2_with fail
    go_ret
    exact ⟨rfl, B1.out⟩
end Go.Proofs.Ytddeeejfmodgfaa

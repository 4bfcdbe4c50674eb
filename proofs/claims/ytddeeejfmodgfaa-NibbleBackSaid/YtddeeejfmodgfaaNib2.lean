/- Nibble: contracts of right, join, Of. -/
import Derived.Test.YtddeeejfmodgfaaNib1
import Derived.Test.YtddeeejfmodgfaaBuf
import Derived.Deep.RegionLaw
namespace Go.Proofs.Ytddeeejfmodgfaa
open Go.RowKit

/-- Is a text a part? -/
def rightB (s : ByteArray) : Bool := s.data.toList.all (· < 16)

theorem rightB_at {s : ByteArray} (h : rightB s = true) {i : Nat} (hi : i < s.size) : s[i].toNat < 16 := by
  have := (List.all_eq_true.1 h) s[i] (List.mem_of_getElem? (bget hi))
  simpa [UInt8.lt_iff_toNat_lt] using this

theorem all_bad : ∀ (l : List UInt8), l.all (· < 16) = false → ∃ (i : Nat) (c : UInt8), l[i]? = some c ∧ 16 ≤ c.toNat ∧ ∀ (j : Nat), j < i → ∀ d : UInt8, l[j]? = some d → d.toNat < 16
  | [], h => by simp at h
  | x :: l, h => by
    by_cases hx : x < 16
    · have h' : l.all (· < 16) = false := by simpa [hx] using h
      obtain ⟨i, c, h1, h2, h3⟩ := all_bad l h'
      refine ⟨i + 1, c, by simpa using h1, h2, fun j hj d hd => ?_⟩
      cases j with
      | zero => simp at hd; subst hd; simpa [UInt8.lt_iff_toNat_lt] using hx
      | succ j => exact h3 j (by omega) d (by simpa using hd)
    · refine ⟨0, x, rfl, ?_, fun j hj => by omega⟩
      have : ¬ x.toNat < 16 := by simpa [UInt8.lt_iff_toNat_lt] using hx
      omega

theorem rightB_bad {s : ByteArray} (h : rightB s = false) : ∃ i, ∃ hi : i < s.size, 16 ≤ s[i].toNat ∧ ∀ j, (hj : j < i) → s[j].toNat < 16 := by
  obtain ⟨i, c, h1, h2, h3⟩ := all_bad _ h
  have hi : i < s.size := by
    have := (List.getElem?_eq_some_iff.1 h1).1
    simpa using this
  have e := bget hi
  rw [h1] at e
  refine ⟨i, hi, ?_, fun j hj => h3 j hj _ (bget (by omega))⟩
  rw [← Option.some.inj e]
  exact h2

set_option maxHeartbeats 1000000 in
theorem right_yes (s : ByteArray) (w : World) (hs : s.size ≤ 9223372036854775807) (h : rightB s = true) :
    Calls Try.prog 57 #[.string s] w fun e w' => e = .returned (.bool true) ∧ w = w' := by
  have HR := Lib.hid h
  clear h
  go_enter Try.func57, Try.ntmps57
  go_wp2
  go_loop [6] (fun i => ∃ k : Nat, k ≤ s.size ∧ i = .int .i64 k) (fun i => s.size - (intOf i).toNat)
  case atStart => exact ⟨0, Nat.zero_le _, rfl⟩
  case round =>
    obtain ⟨k, hk, rfl⟩ := hrel
    by_cases hlt : k < s.size
    · have hb : ((s[k].toNat : Int)) < 16 := by have := rightB_at HR.out hlt; omega
      go_wp2
      go_round
      case rel => exact ⟨k + 1, by omega, by go_num⟩
      case measure => simp [intOf]; omega
    · go_wp2
      go_ret
      exact ⟨rfl, rfl⟩

set_option maxHeartbeats 1000000 in
theorem right_no (s : ByteArray) (w : World) (hs : s.size ≤ 9223372036854775807) (h : rightB s = false) :
    Calls Try.prog 57 #[.string s] w fun e w' => e = .returned (.bool false) ∧ w = w' := by
  obtain ⟨i, hi, hbad, hgood⟩ := rightB_bad h
  have HG := Lib.hid hgood
  clear hgood h
  go_enter Try.func57, Try.ntmps57
  go_wp2
  go_loop [6] (fun c => ∃ k : Nat, k ≤ i ∧ c = .int .i64 k) (fun c => s.size - (intOf c).toNat)
  case atStart => exact ⟨0, Nat.zero_le _, rfl⟩
  case round =>
    obtain ⟨k, hk, rfl⟩ := hrel
    have hlt' : k < s.size := by omega
    by_cases hlt : k < i
    · have hb : ((s[k].toNat : Int)) < 16 := by have := HG.out k hlt; omega
      go_wp2
      go_round
      case rel => exact ⟨k + 1, by omega, by go_num⟩
      case measure => simp [intOf]; omega
    · obtain rfl : k = i := by omega
      have hb : 16 ≤ ((s[k].toNat : Int)) := by omega
      go_wp2
      go_ret
      exact ⟨rfl, rfl⟩

/-- Half bytes put together. -/
def joinL : List UInt8 → List UInt8
  | x :: y :: l => (x * 16 + y) :: joinL l
  | _ => []

def joinB (s : ByteArray) : ByteArray := ⟨(joinL s.data.toList).toArray⟩

theorem joinL_fill : ∀ (l : List UInt8), (List.range (l.length / 2)).map (fun i => l.getD (2 * i) 0 * 16 + l.getD (2 * i + 1) 0) = joinL l
  | [] => by simp [joinL]
  | [_] => by simp [joinL]
  | x :: y :: l => by
    have e : (x :: y :: l).length / 2 = l.length / 2 + 1 := by simp; omega
    rw [e, List.range_succ_eq_map, List.map_cons, List.map_map, joinL, ← joinL_fill l]
    congr 1
set_option maxHeartbeats 1000000 in
theorem join_any (s : ByteArray) (w : World) (hs : s.size ≤ 9223372036854775807) (hs2 : s.size ≤ 281474976710656) :
    Calls Try.prog 58 #[.string s] w fun e w' => e = .returned (.string (joinB s)) ∧ Below w.heap.size w w' := by
  obtain ⟨i0, hi, hz0, hz1, hz2⟩ := info_parts info_u8
  obtain ⟨n, hN⟩ : ∃ n, s.size / 2 = n := ⟨_, rfl⟩
  have hn : ((s.size : Int) / 2) = (n : Int) := by omega
  have HN := Lib.hid hN
  clear hN
  have nb : n ≤ 281474976710656 := by omega
  go_enter Try.func58, Try.ntmps58
  go_wp2_with (at_make; (refine wpList_make_full _ rfl _ _ 76 rfl w.heap.size 5 i0 (.int .u8 0) 1 Try.underlying76 hi hz0 hz1 .i64 .i64 _ _ n rfl rfl rfl rfl (by rw [hz2]; omega) (by unfold maxLen; omega) (Nat.le_refl _) ?_); intro w1 hown hg)
  have hbuf := buf_made (fun i => s.data.toList.getD (2 * i) 0 * 16 + s.data.toList.getD (2 * i + 1) 0) hown
  have HB := Lib.hid hbuf
  have HG := Lib.hid ((Below.refl w.heap.size w).grown hg (Nat.le_refl _) (fun k hk => by cases hk))
  clear hbuf hown hg
  generalize hf : (fun i => s.data.toList.getD (2 * i) 0 * 16 + s.data.toList.getD (2 * i + 1) 0) = f at HB
  have HF := Lib.hid hf
  clear hf
  go_loopw [11] (fun i wr => ∃ k : Nat, k ≤ n ∧ i = .int .i64 k ∧ Buf wr w.heap.size w.heap.size (fillL f n k) ∧ Below w.heap.size w wr) (fun i _ => n - (intOf i).toNat)
  case atStart => exact ⟨0, Nat.zero_le _, rfl, HB.out, HG.out⟩
  case round =>
    obtain ⟨k, hk, rfl, hbuf, hbl⟩ := hrel
    by_cases hlt : k < n
    · have c1 := hbuf.cell (i := k) (by rw [fillL_length]; exact hlt)
      have c2 := hbuf.frozen k
      have l1 : 2 * (k : Int) < (s.size : Int) := by have := HN.out; omega
      have l2 : 2 * (k : Int) + 1 < (s.size : Int) := by have := HN.out; omega
      have HB := Lib.hid hbuf
      have HL := Lib.hid hbl
      clear hbuf hbl
      have e1 : IntKind.i64.wrap (2 * (k : Int)) = 2 * (k : Int) := IntWalk.i64_in _ (by omega)
      have e2 : IntKind.i64.wrap (2 * (k : Int) + 1) = 2 * (k : Int) + 1 := IntWalk.i64_in _ (by omega)
      have e3 : (2 * (k : Int)).toNat = 2 * k := by omega
      have e4 : (2 * (k : Int) + 1).toNat = 2 * k + 1 := by omega
      have l3 : 0 ≤ 2 * (k : Int) := by omega
      have l4 : 0 ≤ 2 * (k : Int) + 1 := by omega
      go_wp2
      (refine region_tail 14 mix ?hB ?_; case hB => kernel_rfl); (simp only [List.take_succ_cons, List.take_zero, List.drop_succ_cons, List.drop_zero]; (iterate 14 (with_reducible refine wpStill_step ?_; intro K hK; go_simp; with_reducible refine hK _ ?_; clear hK K)); with_reducible refine wpStill_nil ?_)
      go_wp2
      go_roundw
      case rel =>
        refine ⟨k + 1, by omega, by go_num, ?_, HL.out.drew.setCell (Nat.le_refl _) _⟩
        rw [← fillL_set]
        refine HB.out.drew.set k (f k) ?_
        have d1 : 2 * k < s.size := by omega
        have d2 : 2 * k + 1 < s.size := by omega
        rw [← HF.out]
        simp only [List.getD, bget d1, bget d2, Option.getD_some, IntKind.wrap_u8, UInt8.toNat_add, UInt8.toNat_mul]
        simp
      case measure => simp [intOf]; omega
    · obtain rfl : k = n := by omega
      have hcv := hbuf.conv k (by rw [fillL_length])
      have HB := Lib.hid hbuf
      have HL := Lib.hid hbl
      clear hbuf hbl
      go_wp2
      go_ret
      refine ⟨?_, HL.out⟩
      rw [fillL_full, ← HF.out, ← HN.out]
      have := joinL_fill s.data.toList
      simp only [Array.length_toList] at this
      unfold joinB
      rw [← this]
      rfl

/-- A key's half bytes. -/
def ofL : List UInt8 → List UInt8
  | x :: l => (x / 16) :: (x % 16) :: ofL l
  | [] => []

def ofB (s : ByteArray) : ByteArray := ⟨(ofL s.data.toList).toArray⟩

theorem ofL_length : ∀ l : List UInt8, (ofL l).length = 2 * l.length
  | [] => rfl
  | x :: l => by simp only [ofL, List.length_cons, ofL_length l]; omega

theorem ofL_snoc : ∀ (l : List UInt8) (x : UInt8), ofL (l ++ [x]) = ofL l ++ [x / 16, x % 16]
  | [], _ => rfl
  | y :: l, x => by simp only [List.cons_append, ofL, ofL_snoc l x]

theorem take_snoc {s : ByteArray} {k : Nat} (h : k < s.size) : s.data.toList.take (k + 1) = s.data.toList.take k ++ [s[k]] := by
  rw [List.take_add_one, bget h]
  rfl

theorem u8_div (b : UInt8) : IntKind.u8.wrap ((b.toNat : Int) / 16) = ((b / 16).toNat : Int) := by
  have := b.toNat_lt
  simp [IntKind.wrap_u8]
  omega
theorem u8_mod (b : UInt8) : ((b.toNat : Int)).tmod 16 = ((b % 16).toNat : Int) := by
  rw [Int.tmod_eq_emod_of_nonneg (by omega)]
  simp

def ofAt (l : List UInt8) (j : Nat) : UInt8 := if j % 2 = 0 then l.getD (j / 2) 0 / 16 else l.getD (j / 2) 0 % 16

theorem ofL_fill : ∀ (l : List UInt8), (List.range (2 * l.length)).map (ofAt l) = ofL l
  | [] => by simp [ofL]
  | x :: l => by
    have e : 2 * (x :: l).length = 2 * l.length + 1 + 1 := by simp; omega
    rw [e, List.range_succ_eq_map, List.map_cons, List.map_map, List.range_succ_eq_map, List.map_cons, List.map_map, ofL, ← ofL_fill l]
    congr 1
    congr 1
    refine List.map_congr_left fun j _ => ?_
    simp only [Function.comp, ofAt, Nat.succ_eq_add_one]
    have h1 : (j + 1 + 1) % 2 = j % 2 := by omega
    have h2 : (j + 1 + 1) / 2 = j / 2 + 1 := by omega
    rw [h1, h2]
    simp

set_option maxHeartbeats 2000000 in
theorem of_any (s : ByteArray) (w : World) (hs : s.size ≤ 1000000) :
    Calls Try.prog 26 #[.string s] w fun e w' => e = .returned (.string (ofB s)) ∧ Below w.heap.size w w' := by
  obtain ⟨i0, hi, hz0, hz1, hz2⟩ := info_parts info_u8
  obtain ⟨n, hN⟩ : ∃ n, 2 * s.size = n := ⟨_, rfl⟩
  have hn : (2 * (s.size : Int)) = (n : Int) := by omega
  have HN := Lib.hid hN
  clear hN
  have nb : n ≤ 2000000 := by have := HN.out; omega
  go_enter Try.func26, Try.ntmps26
  go_wp2_with (at_make; refine wpList_make_full _ rfl _ _ 76 rfl w.heap.size 5 i0 (.int .u8 0) 1 Try.underlying76 hi hz0 hz1 .i64 .i64 _ _ n rfl rfl rfl rfl (by rw [hz2]; omega) (by unfold maxLen; omega) (Nat.le_refl _) ?_; intro w1 hown hg)
  have hbuf := buf_made (ofAt s.data.toList) hown
  have HB := Lib.hid hbuf
  have HG := Lib.hid ((Below.refl w.heap.size w).grown hg (Nat.le_refl _) (fun k hk => by cases hk))
  clear hbuf hown hg
  generalize hf : ofAt s.data.toList = f at HB
  have HF := Lib.hid hf
  clear hf
  go_loopw [12] (fun i wr => ∃ k : Nat, k ≤ n ∧ i = .int .i64 k ∧ Buf wr w.heap.size w.heap.size (fillL f n k) ∧ Below w.heap.size w wr) (fun i _ => n - (intOf i).toNat)
  case atStart => exact ⟨0, Nat.zero_le _, rfl, HB.out, HG.out⟩
  case round =>
    obtain ⟨k, hk, rfl, hbuf, hbl⟩ := hrel
    by_cases hlt : k < n
    · have c1 := hbuf.cell (i := k) (by rw [fillL_length]; exact hlt)
      have c2 := hbuf.frozen k
      obtain ⟨q, hq⟩ : ∃ q, k / 2 = q := ⟨_, rfl⟩
      have e1 : (k : Int) / 2 = (q : Int) := by omega
      have d1 : q < s.size := by have := HN.out; omega
      have HB := Lib.hid hbuf
      have HL := Lib.hid hbl
      have HQ := Lib.hid hq
      clear hbuf hbl hq
      rcases Nat.mod_two_eq_zero_or_one k with hk2 | hk2
      · have e2 : ((k : Int) % 2 == 0) = true := by simp; omega
        have HK := Lib.hid hk2
        clear hk2
        go_wp2
        go_roundw
        case rel =>
          refine ⟨k + 1, by omega, by go_num, ?_, HL.out.setCell (Nat.le_refl _) _⟩
          rw [← fillL_set]
          refine HB.out.set k (f k) ?_
          rw [← HF.out]
          have hb256 := (s[q]).toNat_lt
          simp [ofAt, HK.out, HQ.out, List.getD, bget d1] <;> omega
        case measure => simp [intOf]; omega
      · have e2 : ((k : Int) % 2 == 0) = false := by simp; omega
        have HK := Lib.hid hk2
        clear hk2
        go_wp2
        go_roundw
        case rel =>
          refine ⟨k + 1, by omega, by go_num, ?_, HL.out.setCell (Nat.le_refl _) _⟩
          rw [← fillL_set]
          refine HB.out.set k (f k) ?_
          rw [← HF.out]
          have hb256 := (s[q]).toNat_lt
          simp [ofAt, HK.out, HQ.out, List.getD, bget d1] <;> omega
        case measure => simp [intOf]; omega
    · obtain rfl : k = n := by omega
      have hcv := hbuf.conv k (by rw [fillL_length])
      have HB := Lib.hid hbuf
      have HL := Lib.hid hbl
      clear hbuf hbl
      go_wp2
      go_ret
      refine ⟨?_, HL.out⟩
      rw [fillL_full, ← HF.out, ← HN.out]
      have := ofL_fill s.data.toList
      simp only [Array.length_toList] at this
      unfold ofB
      rw [← this]
      rfl

set_option maxHeartbeats 2000000 in
theorem rof_any (s : ByteArray) (w : World) (hs : s.size ≤ 1000000) :
    Calls Try.prog 27 #[.string s] w fun e w' => e = .returned (.string (ofB s)) ∧ Below w.heap.size w w' := by
  go_enter Try.func27, Try.ntmps27
  go_wp2
  go_loopw [3, 4] (fun v i wr => ∃ k : Nat, k ≤ s.size ∧ i = .int .i64 k ∧ OwnB wr w.heap.size v (ofL (s.data.toList.take k)) ∧ Below w.heap.size w wr ∧ w.heap.size ≤ wr.heap.size) (fun _ i _ => s.size - (intOf i).toNat)
  case atStart => exact ⟨0, Nat.zero_le _, rfl, OwnB.start (Nat.le_refl _) 0, (Below.refl _ _).alloc (Nat.le_refl _) _, by simp⟩
  case round =>
    obtain ⟨k, hk, rfl, hown, hbl, hsz⟩ := hrel
    by_cases hlt : k < s.size
    · have hlen : (ofL (s.data.toList.take k)).length = 2 * k := by rw [ofL_length, List.length_take]; simp; omega
      have HO := Lib.hid hown
      have HL := Lib.hid hbl
      have HN := Lib.hid hlen
      clear hown hbl hlen
      go_wp2
      go_region_law (refine step_append_bytes rfl _ _ rfl w.heap.size _ _ rfl (HO.out.drew.alloc _) ⟨wr.heap.size, 0, none⟩ 2 2 [s[k] / 16, s[k] % 16] rfl rfl (two_cells (w := wr.drew) (u8_div s[k]) (u8_mod s[k])) (by rw [HN.out]; omega) (by simp; omega) ?_; intro v' w1 hown1 hb1 hz1)
      all_goals
        go_wp2
        go_roundw
        case rel =>
          refine ⟨k + 1, by omega, by go_num, ?_, hb1 _ (HL.out.drew.alloc hsz _), by simp at hz1; omega⟩
          rw [take_snoc hlt, ofL_snoc]
          exact hown1
        case measure => simp [intOf]; omega
    · obtain rfl : k = s.size := by omega
      have hcv := hown.conv
      have HO := Lib.hid hown
      have HL := Lib.hid hbl
      clear hown hbl
      go_wp2
      go_ret
      refine ⟨?_, HL.out⟩
      unfold ofB
      rw [List.take_of_length_le (by simp)]
      rfl
end Go.Proofs.Ytddeeejfmodgfaa

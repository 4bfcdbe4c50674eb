/- Crc: contract of the program: Scan. -/
import Derived.Test.YtddeeejfmodgfaaCrc3
import Derived.Test.YtddeeejfmodgfaaStrs
namespace Go.Proofs.Ytddeeejfmodgfaa
open Go.RowKit

/-- The records and how far, as a slice and a number. -/
def Scanned (s : ByteArray) (w : World) (e : Ending) (w' : World) : Prop :=
  ∃ v, e = .returned (.tuple #[v, .int .i64 ((scanL (bl s)).2 : Int)]) ∧ OwnS w' w.heap.size v ((scanL (bl s)).1.map mkS) ∧ Below w.heap.size w w'

theorem scan_far : ∀ (f : Nat) (s : List UInt8), s.length ≤ f → (scanL s).2 ≤ s.length ∧ 7 * (scanL s).1.length ≤ (scanL s).2
  | 0, s, h => by
    obtain rfl : s = [] := List.eq_nil_of_length_eq_zero (by omega)
    exact ⟨Nat.le_refl _, Nat.le_refl _⟩
  | f + 1, s, h => by
    cases ho : oneL s with
    | none => rw [scanL_none ho]; exact ⟨Nat.zero_le _, Nat.le_refl _⟩
    | some n =>
      have h1 := oneL_some ho
      have ih := scan_far f (s.drop (n + 6)) (by rw [List.length_drop]; omega)
      rw [scanL_some ho]
      simp only [List.length_cons]
      rw [List.length_drop] at ih
      omega

/-- What a scan's loop holds: 'recs' have been read, as far as 'k'. -/
def ScanAt (l : List UInt8) (recs : List (List UInt8)) (k : Nat) : Prop :=
  k ≤ l.length ∧ recs.length ≤ k ∧ scanL l = (recs ++ (scanL (l.drop k)).1, k + (scanL (l.drop k)).2)

theorem ScanAt.start (l : List UInt8) : ScanAt l [] 0 := ⟨Nat.zero_le _, Nat.zero_le _, by simp⟩

theorem ScanAt.step {l : List UInt8} {recs : List (List UInt8)} {k n : Nat} (h : ScanAt l recs k) (ho : oneL (l.drop k) = some n) : ScanAt l (recs ++ [((l.drop k).drop 2).take n]) (k + (n + 6)) := by
  obtain ⟨h1, h2, h3⟩ := h
  have h4 := oneL_some ho
  rw [List.length_drop] at h4
  refine ⟨by omega, by rw [List.length_append]; simp; omega, ?_⟩
  rw [h3, scanL_some ho, List.drop_drop]
  simp
  omega

theorem ScanAt.done {l : List UInt8} {recs : List (List UInt8)} {k : Nat} (h : ScanAt l recs k) (ho : oneL (l.drop k) = none) : scanL l = (recs, k) := by
  rw [h.2.2, scanL_none ho]
  simp

set_option maxHeartbeats 1000000 in
theorem crcScan_any (s : ByteArray) (w : World) (hs : s.size ≤ 1000000) :
    Calls Try.prog 29 #[.string s] w (Scanned s w) := by
  go_enter Try.func29, Try.ntmps29
  go_wp2_with (first
    | (go_at_call 55; refine (table_any _).mono ?_; rintro e w1 ⟨rfl, hb1⟩)
    | (refine wpList_store_row rfl 71 _ _ rfl w1.heap.size tabV rfl rfl 71 Try.zeroCells71 (heap_alloc_new _ _) (by unfold tabV; rw [tabA_size]; kernel_rfl) (by unfold tabV; rw [tabA_size, Try.zeroCells71_size]) (tabA_one _) ?_))
  have HB1 : Below w.heap.size w ((w1.alloc (.cells Try.zeroCells71 71)).setRow w1.heap.size tabV) := below_setRow (hb1.alloc hb1.size _) hb1.size _
  have HT1 : HasTab ((w1.alloc (.cells Try.zeroCells71 71)).setRow w1.heap.size tabV) w1.heap.size := hasTab_heap (setRow_heap _ _ _ _ _ _ (heap_alloc_new _ _))
  have HZ1 := hb1.size
  clear hb1
  generalize hWT : (w1.alloc (.cells Try.zeroCells71 71)).setRow w1.heap.size tabV = WT at *
  have hsz : WT.heap.size = w1.heap.size + 1 := by rw [← hWT]; simp
  clear hWT
  generalize w1.heap.size = B at *
  have HSZ := Lib.hid hsz
  have HT1 := Lib.hid HT1
  have HB1 := Lib.hid HB1
  have HZ1 := Lib.hid HZ1
  clear hsz
  go_loopw [5, 6] (fun v c wr => ∃ (k : Nat) (recs : List (List UInt8)), ScanAt (bl s) recs k ∧ c = .int .i64 k ∧ OwnS wr (B + 1) v (recs.map mkS) ∧ Below (B + 1) WT wr) (fun _ c _ => s.size - (intOf c).toNat)
  case atStart =>
    exact ⟨0, [], ScanAt.start _, rfl, OwnS.nil _ _, Below.refl _ _⟩
  case round =>
    obtain ⟨k, recs, hat, rfl, hown, hbl⟩ := hrel
    have hk : k ≤ s.size := by have := hat.1; rwa [bl_length] at this
    have hrl : recs.length ≤ k := hat.2.1
    have hd : bl (s.extract k s.size) = (bl s).drop k := by rw [bl_extract, stake_all]
    have hz : (s.extract k s.size).size ≤ 9223372036854775807 := by rw [ByteArray.size_extract]; omega
    have htab : HasTab wr B := fun i hi => by rw [hbl.cell (by simp)]; exact HT1.out i hi
    have hrz := hbl.size
    rw [HSZ.out] at hrz
    have HAT := Lib.hid hat
    have HO := Lib.hid hown
    have HT := Lib.hid htab
    have HL := Lib.hid hbl
    clear hat hown htab hbl
    cases ho : oneL ((bl s).drop k) with
    | none =>
      have K := Lib.hid (fun w ht => one_no (s.extract k s.size) B w hz ht (by rw [hd]; exact ho))
      have HD := Lib.hid ho
      clear ho hd hz
      go_wp2_with fail
      refine (K.out _ HT.out).mono ?_
      rintro e w2 ⟨r, m, rfl, nd, rfl⟩
      go_wp2_with fail
      go_ret2
      have hdone := HAT.out.done HD.out
      unfold Scanned
      rw [hdone]
      exact ⟨_, rfl, ((HO.out.drewN nd).mono (by have := HZ1.out; omega)), below_drewN (HB1.out.trans (HL.out.mono (by have := HZ1.out; omega))) nd⟩
    | some n =>
      have K := Lib.hid (fun w ht => one_yes (s.extract k s.size) B n w hz ht (by rw [hd]; exact ho))
      have hnn := oneL_some ho
      rw [List.length_drop, bl_length] at hnn
      have hn2 : k + (n + 6) ≤ s.size := by omega
      have HX : Hid ((s.extract k s.size).extract 2 (2 + n) = mkS ((((bl s).drop k).drop 2).take n)) := Lib.hid (bl_inj (by
        rw [bl_extract, hd, bl_mk, List.drop_take]
        congr 1
        omega))
      have HD := Lib.hid ho
      clear ho hd hz hnn
      generalize (s.extract k s.size).extract 2 (2 + n) = R at *
      go_wp2_with fail
      refine (K.out _ HT.out).mono ?_
      rintro e w2 ⟨rfl, nd, rfl⟩
      go_wp2_with (first
        | (at_builtin; refine wpList_append_str rfl _ _ rfl (B + 1) _ (recs.map mkS) rfl ((HO.out.drewN nd).alloc _) ⟨wr.heap.size, 0, none⟩ 1 1 [R] rfl rfl (one_str_new (w := wr.drewN nd)) (by rw [List.length_map]; omega) (by simp; omega) ?_; intro v' w3 hown3 hb3 hz3))
      go_roundw
      case rel =>
        refine ⟨k + (n + 6), recs ++ [(((bl s).drop k).drop 2).take n], HAT.out.step HD.out, by go_num, ?_, hb3 _ ((below_drewN HL.out nd).alloc hrz _)⟩
        rw [List.map_append, List.map_cons, List.map_nil, ← HX.out]
        exact hown3
      case measure => simp [intOf]; omega
end Go.Proofs.Ytddeeejfmodgfaa

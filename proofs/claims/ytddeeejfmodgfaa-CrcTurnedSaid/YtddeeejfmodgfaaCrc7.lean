/- Crc: contract of the reference: Turned. -/
import Derived.Test.YtddeeejfmodgfaaCrc5
import Derived.Test.YtddeeejfmodgfaaCrcP4
import Derived.Laws.IdiomStrings
namespace Go.Proofs.Ytddeeejfmodgfaa
open Go.RowKit

/-- Block 'g' begins with the bytes 'l', and may be written there. -/
def ByteRow (w : World) (g : Nat) (l : List UInt8) : Prop :=
  ∃ cs : Array Value, w.heap[g]? = some (.cells cs 5 (cs.size, cs.size + 1)) ∧ l.length ≤ cs.size ∧ ∀ i (h : i < l.length), cs[i]? = some (.int .u8 (l[i].toNat : Int))

theorem ByteRow.cell {w : World} {g : Nat} {l : List UInt8} (h : ByteRow w g l) {i : Nat} (hi : i < l.length) : w.cell? ⟨g, i, none⟩ = some (.int .u8 ((l.getD i 0).toNat : Int)) := by
  obtain ⟨cs, h1, _, h3⟩ := h
  rw [cell_of_row _ _ _ _ _ _ h1, h3 i hi]
  simp [List.getD, List.getElem?_eq_getElem hi]

theorem ByteRow.frozen {w : World} {g : Nat} {l : List UInt8} (h : ByteRow w g l) {i : Nat} (hi : i < l.length) : w.frozen? ⟨g, i, none⟩ = false := by
  obtain ⟨cs, h1, h2, _⟩ := h
  simp only [World.frozen?, h1]
  simp
  omega

theorem ByteRow.set {w : World} {g : Nat} {l : List UInt8} (h : ByteRow w g l) (i : Nat) (b : UInt8) {v : Int} (hv : v = (b.toNat : Int)) : ByteRow (w.setCell ⟨g, i, none⟩ (.int .u8 v)) g (l.set i b) := by
  subst hv
  obtain ⟨cs, h1, h2, h3⟩ := h
  refine ⟨cs.setIfInBounds i (.int .u8 (b.toNat : Int)), ?_, by simpa using h2, fun j hj => ?_⟩
  · rw [setCell_eq_setRow w g i cs _ _ _ h1, Array.size_setIfInBounds]
    exact setRow_heap w g cs _ _ _ h1
  · rw [List.length_set] at hj
    rw [Array.getElem?_setIfInBounds, List.getElem_set]
    by_cases e : i = j
    · subst e
      rw [if_pos rfl, if_pos (by omega), if_pos rfl]
    · rw [if_neg e, if_neg e, h3 j hj]

theorem ByteRow.drew {w : World} {g : Nat} {l : List UInt8} (h : ByteRow w g l) : ByteRow w.drew g l := h

theorem ByteRow.conv {w : World} {g : Nat} {l : List UInt8} (h : ByteRow w g l) (n c : Nat) (hn : n = l.length) : (convert 76 9 (.slice (some ⟨g, 0, none⟩) n c)).run Try.prog w = .ok (.string (mkS l)) w := by
  subst hn
  refine run_convert_bytes_back w 76 9 5 _ _ l Try.underlying76 Try.underlying5 Try.underlying9 fun j hj => ?_
  have := h.cell hj
  simp only [Addr.add, Nat.zero_add]
  split
  · rename_i h0; subst h0; rw [this]; simp [List.getD, List.getElem?_eq_getElem hj]
  · rw [this]; simp [List.getD, List.getElem?_eq_getElem hj]

theorem byteRow_made (w : World) (s : ByteArray) (c : Nat) : ByteRow (w.drew.alloc (.cells (bytesRow s c) 5 ((bytesRow s c).size, (bytesRow s c).size + 1))) w.heap.size (bl s) := by
  refine ⟨bytesRow s c, heap_alloc_new w.drew _, ?_, fun i hi => ?_⟩
  · rw [bl_length, bytesRow, Array.size_append, Array.size_map]
    exact Nat.le_add_right _ _
  · rw [bl_length] at hi
    have hi' : i < s.data.size := hi
    rw [bytesRow, Array.getElem?_append_left (by rw [Array.size_map]; exact hi'), Array.getElem?_map, Array.getElem?_eq_getElem hi']
    rfl

/-- The same text but for some bits that stand one behind the other. -/
def NearBits (a t : List UInt8) (m n : Nat) : Prop := t.length = a.length ∧ ∀ p, p < m ∨ n ≤ p → bitAt t p = bitAt a p

theorem turn_byte (x : UInt8) (r : Nat) (hr : r < 8) : Go.bits .xor .u8 (x.toNat : Int) (2 ^ r % 256) = ((UInt8.ofNat (x.toNat ^^^ 2 ^ r)).toNat : Int) ∧ (UInt8.ofNat (x.toNat ^^^ 2 ^ r)).toNat = x.toNat ^^^ 2 ^ r := by
  have h2 : 2 ^ r < 256 := Nat.pow_lt_pow_right (by decide) (by omega : r < 8)
  have h3 : x.toNat ^^^ 2 ^ r < 256 := xor_lt_256 x.toNat_lt h2
  have e : ((2 : Int) ^ r % 256) = ((2 ^ r : Nat) : Int) := by
    rw [show (2 : Int) ^ r = ((2 ^ r : Nat) : Int) from by rw [Int.natCast_pow]; rfl]
    exact Int.emod_eq_of_lt (Int.natCast_nonneg _) (Int.ofNat_lt.2 h2)
  have e2 : (UInt8.ofNat (x.toNat ^^^ 2 ^ r)).toNat = x.toNat ^^^ 2 ^ r := by
    simp only [UInt8.toNat_ofNat']
    omega
  rw [e, e2, u8_xor_nat _ _ x.toNat_lt h2]
  exact ⟨rfl, rfl⟩

theorem NearBits.turn {a t : List UInt8} {m k : Nat} (h : NearBits a t m (m + k)) (v : UInt8) (hq : (m + k) / 8 < t.length) (hv : v.toNat = (t.getD ((m + k) / 8) 0).toNat ^^^ 2 ^ ((m + k) % 8)) : NearBits a (t.set ((m + k) / 8) v) m (m + (k + 1)) :=
  ⟨by rw [List.length_set]; exact h.1, fun p hp => by rw [bit_turn t (m + k) v hq hv p (by omega)]; exact h.2 p (by omega)⟩

theorem NearBits.keep {a t : List UInt8} {m k : Nat} (h : NearBits a t m (m + k)) : NearBits a t m (m + (k + 1)) := ⟨h.1, fun p hp => h.2 p (by omega)⟩

/-- What Turned answers. -/
def TurnedOut (s : ByteArray) (m : Nat) (w : World) (e : Ending) (w' : World) : Prop := ∃ t, NearBits (bl s) t m (m + 32) ∧ e = .returned (.string (mkS t)) ∧ Below w.heap.size w w'

set_option maxHeartbeats 2000000 in
theorem turned_any (s : ByteArray) (m : Nat) (p : Int) (w : World) (hs : s.size ≤ 1000000) (hm : m ≤ 100000000) (hp0 : 0 ≤ p) (hp : p ≤ 4294967295) :
    Calls Try.prog 37 #[.string s, .int .i64 m, .int .u32 p] w (TurnedOut s m w) := by
  have hcv := run_bytes_of_string (P := Try.prog) w 9 76 5 s Try.underlying9 Try.underlying76 Try.underlying5
  have hrow := byteRow_made w s (grownCap w s.size 0 5)
  generalize grownCap w s.size 0 5 = C at *
  have HB : Hid (Below w.heap.size w (w.drew.alloc (.cells (bytesRow s C) 5 ((bytesRow s C).size, (bytesRow s C).size + 1)))) := Lib.hid ((Below.refl w.heap.size w).drew.alloc (Nat.le_refl _) _)
  generalize w.drew.alloc (.cells (bytesRow s C) 5 ((bytesRow s C).size, (bytesRow s C).size + 1)) = W1 at *
  have HR := Lib.hid hrow
  clear hrow
  go_enter Try.func37, Try.ntmps37
  go_wp2
  go_loopw [8] (fun c wr => ∃ (k : Nat) (t : List UInt8), k ≤ 32 ∧ c = .int .i64 k ∧ NearBits (bl s) t m (m + k) ∧ ByteRow wr w.heap.size t ∧ Below w.heap.size w wr) (fun c _ => 32 - (intOf c).toNat)
  case atStart => exact ⟨0, bl s, Nat.zero_le _, rfl, ⟨rfl, fun _ _ => rfl⟩, HR.out, HB.out⟩
  case round =>
    obtain ⟨k, t, hk, rfl, hnear, hrow, hbl⟩ := hrel
    have hl := hnear.1
    rw [bl_length] at hl
    have HNE := Lib.hid hnear
    have HR := Lib.hid hrow
    have HL := Lib.hid hbl
    have HLn := Lib.hid hl
    by_cases hlt : k < 32
    · by_cases hat : m + k < 8 * s.size
      · have q1 : (m + k) / 8 < s.size := by omega
        have c1 := hrow.cell (i := (m + k) / 8) (by omega)
        have f1 := hrow.frozen (i := (m + k) / 8) (by omega)
        clear hnear hrow hbl hl
        cases hq : ((p / 2 ^ k).tmod 2 == 1) with
        | true =>
          obtain ⟨e1, e2⟩ := turn_byte (t.getD ((m + k) / 8) 0) ((m + k) % 8) (Nat.mod_lt _ (by decide))
          have E1 := Lib.hid e1
          have E2 := Lib.hid e2
          clear e1 e2
          go_wp2
          go_roundw
          case rel => exact ⟨k + 1, _, by omega, by go_num, HNE.out.turn _ (by rw [HLn.out]; exact q1) E2.out, HR.out.set _ _ E1.out, HL.out.setCell (Nat.le_refl _) _⟩
          case measure => simp [intOf]; omega
        | false =>
          go_wp2
          go_roundw
          case rel => exact ⟨k + 1, t, by omega, by go_num, HNE.out.keep, HR.out, HL.out⟩
          case measure => simp [intOf]; omega
      · clear hnear hrow hbl hl
        go_wp2
        go_roundw
        case rel => exact ⟨k + 1, t, by omega, by go_num, HNE.out.keep, HR.out, HL.out⟩
        case measure => simp [intOf]; omega
    · obtain rfl : k = 32 := by omega
      have hcv2 := hrow.conv s.size C hl.symm
      clear hnear hrow hbl hl
      go_wp2
      go_ret
      exact ⟨t, HNE.out, rfl, HL.out⟩
end Go.Proofs.Ytddeeejfmodgfaa

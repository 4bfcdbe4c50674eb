/- Rlp: contracts of the program: plain, head. Rlp: contracts of the program: head. Rlp: items in memory. -/
import Derived.Test.YthipnbiilobjeaaStrs
import Derived.Test.YthipnbiilobjeaaBuf
import Derived.Test.YthipnbiilobjeaaRow
import Derived.Test.YthipnbiilobjeaaRlpP3
import Derived.Laws.AppendOwnNone
namespace Go.Proofs.Ythipnbiilobjeaa
open Go.RowKit
set_option maxRecDepth 100000

/-- 'append' of the call's own bytes to the call's own bytes. -/
theorem wpList_append_own_bytes {ops : Array Oper} {rest : List Oper} {o : Oper} {a : Act} {Q : Exit → Act → World → Prop} {w : World} (hgd : o.guard = Option.none) (s x : Operand)
    (ho : o.op = .call { callee := .builtin .append, args := #[s, x], argTypes := #[117, 117] }) (base : Nat) (v : Value) (l : List UInt8) (hs : a.eval s = v) (hown : OwnB w base v l)
    (b2 : Nat) (v2 : Value) (news : List UInt8) (hx : a.eval x = v2) (hsrc : OwnB w b2 v2 news)
    (hb : l.length + news.length ≤ 140737488355328) (hbase : base ≤ w.heap.size)
    (h : ∀ v' w', OwnB w' base v' (l ++ news) → (∀ w0, Below base w0 w → Below base w0 w') → w.heap.size ≤ w'.heap.size → wpList Try.prog ops Q rest (a.put o.dst v') w') : wpList Try.prog ops Q (o :: rest) a w := by
  obtain ⟨i0, hi, hz0, hz1, hz2⟩ := info_parts info_u8
  rcases hsrc.2 with ⟨hv, hn⟩ | ⟨g, cap, cur, hv, hg, hc, hn, hcap, hsz, hx'⟩
  · obtain rfl : news = [] := List.eq_nil_of_length_eq_zero hn
    subst hv
    refine wpList_append_own_none hgd s x 117 ho base 5 i0 1 Try.underlying117 hi v l.length (bvals l) hs hown hx ?_
    refine h v w ?_ (fun _ h => h) (Nat.le_refl _)
    rw [List.append_nil]
    exact hown
  · subst hv
    refine wpList_append_bytes hgd s x ho base v l hs hown ⟨g, 0, none⟩ news.length cap news hx rfl (fun j hj => ?_) hb hbase h
    refine World.ownsRow.cells hsrc rfl j _ ?_
    simp [bvals, List.getElem?_eq_getElem hj]

set_option maxHeartbeats 1000000 in
theorem plain_any (n : Nat) (w : World) (hn : n < 18446744073709551616) :
    Calls Try.prog 160 #[.int .u64 n] w fun e w' => e = .returned (.string (mkS (dig n))) ∧ Below w.heap.size w w' := by
  go_enter Try.func160, Try.ntmps160
  go_wp2
  go_loopw [0, 3] (fun s0 s3 wr => ∃ (k : Nat) (l : List UInt8), s0 = .int .u64 k ∧ OwnB wr w.heap.size s3 l ∧ dig n = dig k ++ l ∧ k * 256 ^ l.length ≤ n ∧ Below w.heap.size w wr) (fun s0 _ _ => (intOf s0).toNat)
  case atStart => exact ⟨n, [], rfl, OwnB.nil _ _, by simp, by simp, Below.refl _ _⟩
  case round =>
    obtain ⟨k, l, rfl, hown, hd, hle, hbl⟩ := hrel
    by_cases hk : 0 < k
    · have h8 : l.length ≤ 7 := by
        rcases Nat.lt_or_ge l.length 8 with h | h
        · omega
        · have h1 := Nat.pow_le_pow_right (n := 256) (by decide) h
          have h2 : 256 ^ l.length ≤ k * 256 ^ l.length := Nat.le_mul_of_pos_left _ hk
          omega
      have hkn : k < 18446744073709551616 := by
        have := Nat.le_mul_of_pos_right k (Nat.pow_pos (n := l.length) (show 0 < 256 by decide))
        omega
      have hsz := hbl.size
      have O2 := Lib.hid (hown.alloc (.cells #[.int .u8 ((k : Int) % 256)] 5))
      have O1 : Hid (OwnB (wr.alloc (.cells #[.int .u8 ((k : Int) % 256)] 5)) w.heap.size (.slice (some ⟨wr.heap.size, 0, Option.none⟩) 1 1) [UInt8.ofNat k]) := Lib.hid (OwnB.one hsz (UInt8.ofNat k) (by simp))
      have B1 := Lib.hid (hbl.alloc hsz (.cells #[.int .u8 ((k : Int) % 256)] 5))
      have D : Hid (dig n = dig (k / 256) ++ ([UInt8.ofNat k] ++ l)) := Lib.hid (by rw [hd, dig_pos hk, List.append_assoc])
      have E : Hid (k / 256 * 256 ^ ([UInt8.ofNat k] ++ l).length ≤ n) := Lib.hid (by
        rw [List.length_append, List.length_singleton, Nat.pow_add, Nat.pow_one, ← Nat.mul_assoc]
        exact Nat.le_trans (Nat.mul_le_mul_right _ (Nat.div_mul_le_self k 256)) hle)
      clear hown hd hle hbl
      go_wp2_with (at_builtin; refine wpList_append_own_bytes rfl _ _ rfl w.heap.size _ [UInt8.ofNat k] rfl O1.out w.heap.size _ l rfl O2.out (by simp; omega) (by simp; omega) ?_; intro v' w1 hown1 hb1 hz1)
      have HO := Lib.hid hown1
      have HB := Lib.hid (hb1 _ B1.out)
      clear hown1 hb1
      go_roundw
      case rel => exact ⟨k / 256, [UInt8.ofNat k] ++ l, by go_num, HO.out, D.out, E.out, HB.out⟩
      case measure => simp [intOf]; omega
    · obtain rfl : k = 0 := by omega
      have hcv := hown.conv
      rw [dig_zero, List.nil_append] at hd
      have HD := Lib.hid hd
      have HB := Lib.hid hbl
      clear hown hd hle hbl hk
      go_wp2
      go_ret
      rw [HD.out]
      exact ⟨rfl, HB.out⟩
end Go.Proofs.Ythipnbiilobjeaa

namespace Go.Proofs.Ythipnbiilobjeaa
open Go.RowKit
set_option maxRecDepth 100000

theorem dig_len : ∀ (k n : Nat), n < 256 ^ k → (dig n).length ≤ k
  | 0, n, h => by rw [show n = 0 by simpa using h, dig_zero]; exact Nat.le_refl _
  | k + 1, n, h => by
    rcases Nat.eq_zero_or_pos n with rfl | h0
    · rw [dig_zero]; simp
    · rw [dig_pos h0, List.length_append, List.length_singleton]
      have := dig_len k (n / 256) (by rw [Nat.pow_succ] at h; omega)
      omega

set_option maxHeartbeats 1000000 in
theorem head_any (fr n : Nat) (w : World) (hf : fr = 128 ∨ fr = 192) (hn : n < 9223372036854775808) :
    Calls Try.prog 123 #[.int .u8 fr, .int .i64 n] w fun e w' => e = .returned (.string (mkS (headL fr n))) ∧ Below w.heap.size w w' := by
  have hf2 : fr ≤ 192 := by omega
  by_cases h : n ≤ 55
  · obtain ⟨c, hc, hx⟩ : ∃ c : UInt8, UInt8.ofNat (fr + n) = c ∧ (fr : Int) + n = (c.toNat : Int) := ⟨_, rfl, by simp; omega⟩
    have hcv := (OwnB.one (w := w) (Nat.le_refl _) c hx).conv
    have B1 := Lib.hid ((Below.refl w.heap.size w).alloc (Nat.le_refl _) (.cells #[.int .u8 ((fr : Int) + n)] 5))
    rw [headL_short h, hc]
    have s1 : ((n : Int) % 256) = n := by omega
    have s2 : IntKind.u8.wrap ((fr : Int) + n) = (fr : Int) + n := by simp [IntKind.wrap, IntKind.bits, IntKind.signed]; omega
    clear hf hc hx
    go_enter Try.func123, Try.ntmps123
    go_wp2
    go_ret
    exact ⟨rfl, B1.out⟩
  · have hl := dig_len 8 n (by omega)
    have KP := Lib.hid (fun w => plain_any n w (by omega))
    rw [headL, if_neg h]
    have hl0 : 1 ≤ (dig n).length := by rw [dig_pos (by omega), List.length_append]; simp
    have hz : (mkS (dig n)).size = (dig n).length := mk_size _
    obtain ⟨c, hc, hx⟩ : ∃ c : UInt8, UInt8.ofNat (fr + 55 + (dig n).length) = c ∧ (fr : Int) + 55 + (dig n).length = (c.toNat : Int) := ⟨_, rfl, by simp; omega⟩
    rw [hc]
    have E : Hid ((⟨[c].toArray⟩ : ByteArray) ++ mkS (dig n) = mkS (c :: dig n)) := Lib.hid (mk_append [c] (dig n))
    generalize mkS (c :: dig n) = R at *
    generalize (dig n).length = m at *
    generalize mkS (dig n) = D at *
    have s1 : ((m : Int) % 256) = m := by omega
    have HX := Lib.hid hx
    clear hf hc hx
    go_enter Try.func123, Try.ntmps123
    go_wp2_with fail
    refine (KP.out _).mono ?_
    rintro e w1 ⟨rfl, hb⟩
    have hcv := (OwnB.one (w := w1) (Nat.le_refl _) c HX.out).conv
    have B1 := Lib.hid (hb.alloc hb.size (.cells #[.int .u8 ((fr : Int) + 55 + m)] 5))
    clear hb
    go_wp2
    go_ret
    exact ⟨by rw [← E.out]; rfl, B1.out⟩
end Go.Proofs.Ythipnbiilobjeaa

namespace Go.Proofs.Ythipnbiilobjeaa
open Go.RowKit
set_option maxRecDepth 100000

/-- An item as a value. -/
abbrev itemV (l : Bool) (b : List UInt8) (kv : Value) : Value := .agg #[.bool l, .string (mkS b), kv]

mutual
/-- The value reads as the item. -/
def ItemIs (w : World) : It → Value → Prop
  | .mk l b ks, v => ∃ kv, v = itemV l b kv ∧ b.length ≤ 9223372036854775807 ∧
      ((kv = .slice none 0 0 ∧ ks = []) ∨ ∃ (a : Addr) (len cap : Nat), kv = .slice (some a) len cap ∧ len ≤ cap ∧ cap ≤ 9223372036854775807 ∧ ks.length = len ∧ KidsAt w ks a 0)
/-- From element 'i' on the items lie there. -/
def KidsAt (w : World) : List It → Addr → Nat → Prop
  | [], _, _ => True
  | k :: ks, a, i => (∃ v0 v1 v2, w.cell? (a.add (i * 3)) = some v0 ∧ w.cell? (a.add (i * 3 + 1)) = some v1 ∧ w.cell? (a.add (i * 3 + 2)) = some v2 ∧ ItemIs w k (.agg #[v0, v1, v2])) ∧ KidsAt w ks a (i + 1)
end

/-- A slice of items. -/
def KidsIs (w : World) (ks : List It) (kv : Value) : Prop :=
  (kv = .slice none 0 0 ∧ ks = []) ∨ ∃ (a : Addr) (len cap : Nat), kv = .slice (some a) len cap ∧ len ≤ cap ∧ cap ≤ 9223372036854775807 ∧ ks.length = len ∧ KidsAt w ks a 0

theorem itemIs_iff {w : World} {l : Bool} {b : List UInt8} {ks : List It} {v : Value} : ItemIs w (.mk l b ks) v ↔ ∃ kv, v = itemV l b kv ∧ b.length ≤ 9223372036854775807 ∧ KidsIs w ks kv := by
  rw [ItemIs]; rfl

mutual
theorem ItemIs.below {w w' : World} {B : Nat} (hb : Below B w w') (hB : w.heap.size ≤ B) : ∀ (x : It) (v : Value), ItemIs w x v → ItemIs w' x v
  | .mk l b ks, v, h => by
    rw [ItemIs] at h ⊢
    obtain ⟨kv, e, h1, h2⟩ := h
    refine ⟨kv, e, h1, ?_⟩
    rcases h2 with h2 | ⟨a, len, cap, g1, g2, g3, g4, g5⟩
    · exact .inl h2
    · exact .inr ⟨a, len, cap, g1, g2, g3, g4, KidsAt.below hb hB ks a 0 g5⟩
theorem KidsAt.below {w w' : World} {B : Nat} (hb : Below B w w') (hB : w.heap.size ≤ B) : ∀ (ks : List It) (a : Addr) (i : Nat), KidsAt w ks a i → KidsAt w' ks a i
  | [], _, _, _ => by rw [KidsAt]; trivial
  | k :: ks, a, i, h => by
    rw [KidsAt] at h ⊢
    obtain ⟨⟨v0, v1, v2, c0, c1, c2, hi⟩, ht⟩ := h
    have hl := fun {p v} (c : w.cell? p = some v) => Nat.lt_of_lt_of_le (block_lt_of_cell c) hB
    exact ⟨⟨v0, v1, v2, by rw [hb.cell (hl c0)]; exact c0, by rw [hb.cell (hl c1)]; exact c1, by rw [hb.cell (hl c2)]; exact c2, ItemIs.below hb hB k _ hi⟩, KidsAt.below hb hB ks a (i + 1) ht⟩
end

theorem KidsIs.below {w w' : World} {B : Nat} {ks : List It} {v : Value} (h : KidsIs w ks v) (hb : Below B w w') (hB : w.heap.size ≤ B) : KidsIs w' ks v := by
  rcases h with h | ⟨a, len, cap, g1, g2, g3, g4, g5⟩
  · exact .inl h
  · exact .inr ⟨a, len, cap, g1, g2, g3, g4, KidsAt.below hb hB ks a 0 g5⟩

theorem KidsAt.get {w : World} {a : Addr} : ∀ (ks : List It) (j : Nat), KidsAt w ks a j → ∀ i k, ks[i]? = some k →
    ∃ v0 v1 v2, w.cell? (a.add ((j + i) * 3)) = some v0 ∧ w.cell? (a.add ((j + i) * 3 + 1)) = some v1 ∧ w.cell? (a.add ((j + i) * 3 + 2)) = some v2 ∧ ItemIs w k (.agg #[v0, v1, v2])
  | [], _, _, i, k, hk => by simp at hk
  | x :: ks, j, h, 0, k, hk => by
    rw [KidsAt] at h
    simp at hk
    subst hk
    exact h.1
  | x :: ks, j, h, i + 1, k, hk => by
    rw [KidsAt] at h
    have := KidsAt.get ks (j + 1) h.2 i k (by simpa using hk)
    rwa [show j + 1 + i = j + (i + 1) by omega] at this

/-- What a slice of items has. -/
theorem KidsIs.parts {w : World} {ks : List It} {v : Value} (h : KidsIs w ks v) : ∃ (p : Option Addr) (cap : Nat), v = .slice p ks.length cap ∧ ks.length ≤ cap ∧ cap ≤ 9223372036854775807 ∧
    ∀ i k, ks[i]? = some k → ∃ a l b p' n' c', p = some a ∧ w.cell? (a.add (i * 3)) = some (.bool l) ∧ w.cell? (a.add (i * 3 + 1)) = some (.string b) ∧ w.cell? (a.add (i * 3 + 2)) = some (.slice p' n' c') ∧ ItemIs w k (.agg #[.bool l, .string b, .slice p' n' c']) := by
  rcases h with ⟨rfl, rfl⟩ | ⟨a, len, cap, rfl, g2, g3, rfl, g5⟩
  · exact ⟨none, 0, rfl, Nat.le_refl _, Nat.zero_le _, fun i k hk => by simp at hk⟩
  · refine ⟨some a, cap, rfl, g2, g3, fun i k hk => ?_⟩
    obtain ⟨v0, v1, v2, c0, c1, c2, hi⟩ := KidsAt.get ks 0 g5 i k hk
    rw [Nat.zero_add] at c0 c1 c2
    obtain ⟨l, b, kk⟩ := k
    obtain ⟨kv, e, _, hk'⟩ := itemIs_iff.1 hi
    injection e with e
    simp at e
    obtain ⟨rfl, rfl, rfl⟩ := e
    rcases hk' with ⟨rfl, _⟩ | ⟨a', len', cap', rfl, _⟩
    · exact ⟨a, l, mkS b, none, 0, 0, rfl, c0, c1, c2, hi⟩
    · exact ⟨a, l, mkS b, some a', len', cap', rfl, c0, c1, c2, hi⟩
end Go.Proofs.Ythipnbiilobjeaa

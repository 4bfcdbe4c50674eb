/- Rlp: contracts of the program: plain, head. -/
import Derived.Test.YtdeboidelgnffaaStr
import Derived.Test.YtdeboidelgnffaaRow
import Derived.Test.YtdeboidelgnffaaRlpP3
import Derived.Laws.AppendOwnNone
namespace Go.Proofs.Ytdeboidelgnffaa
open Go.RowKit

/-- 'append' of the call's own bytes to the call's own bytes. -/
theorem wpList_append_own_bytes {ops : Array Oper} {rest : List Oper} {o : Oper} {a : Act} {Q : Exit → Act → World → Prop} {w : World} (hgd : o.guard = Option.none) (s x : Operand)
    (ho : o.op = .call { callee := .builtin .append, args := #[s, x], argTypes := #[55, 55] }) (base : Nat) (v : Value) (l : List UInt8) (hs : a.eval s = v) (hown : OwnB w base v l)
    (b2 : Nat) (v2 : Value) (news : List UInt8) (hx : a.eval x = v2) (hsrc : OwnB w b2 v2 news)
    (hb : l.length + news.length ≤ 140737488355328) (hbase : base ≤ w.heap.size)
    (h : ∀ v' w', OwnB w' base v' (l ++ news) → (∀ w0, Below base w0 w → Below base w0 w') → w.heap.size ≤ w'.heap.size → wpList Try.prog ops Q rest (a.put o.dst v') w') : wpList Try.prog ops Q (o :: rest) a w := by
  obtain ⟨i0, hi, hz0, hz1, hz2⟩ := info_parts info_u8
  rcases hsrc.2 with ⟨hv, hn⟩ | ⟨g, cap, cur, hv, hg, hc, hn, hcap, hsz, hx'⟩
  · obtain rfl : news = [] := List.eq_nil_of_length_eq_zero hn
    subst hv
    refine wpList_append_own_none hgd s x 55 ho base 5 i0 1 Try.underlying55 hi v l.length (bvals l) hs hown hx ?_
    refine h v w ?_ (fun _ h => h) (Nat.le_refl _)
    rw [List.append_nil]
    exact hown
  · subst hv
    refine wpList_append_bytes hgd s x ho base v l hs hown ⟨g, 0, none⟩ news.length cap news hx rfl (fun j hj => ?_) hb hbase h
    refine World.ownsRow.cells hsrc rfl j _ ?_
    simp [bvals, List.getElem?_eq_getElem hj]

set_option maxHeartbeats 1000000 in
theorem plain_any (n : Nat) (w : World) (hn : n < 18446744073709551616) :
    Calls Try.prog 30 #[.int .u64 n] w fun e w' => e = .returned (.string (mkS (dig n))) ∧ Below w.heap.size w w' := by
  go_enter Try.func30, Try.ntmps30
  go_wp2
  go_loopw [0, 3] (fun s0 s3 wr => ∃ (k : Nat) (l : List UInt8), s0 = .int .u64 k ∧ OwnB wr w.heap.size s3 l ∧ dig n = dig k ++ l ∧ k * 256 ^ l.length ≤ n ∧ Below w.heap.size w wr) (fun s0 _ _ => (intOf s0).toNat)
  case atStart => exact ⟨n, [], rfl, OwnB.nil _ _, by simp, by simp, Below.refl _ _⟩
  case round =>
    obtain ⟨k, l, rfl, hown, hd, hle, hbl⟩ := hrel
    by_cases hk : 0 < k
    · have h8 : l.length ≤ 7 := by
        rcases Nat.lt_or_ge l.length 8 with h | h
        · omega
        · have h1 := Nat.pow_le_pow_right (n := 256) (by decide) h
          have h2 : 256 ^ l.length ≤ k * 256 ^ l.length := Nat.le_mul_of_pos_left _ hk
          omega
      have hkn : k < 18446744073709551616 := by
        have := Nat.le_mul_of_pos_right k (Nat.pow_pos (n := l.length) (show 0 < 256 by decide))
        omega
      have hsz := hbl.size
      have O2 := Lib.hid (hown.alloc (.cells #[.int .u8 ((k : Int) % 256)] 5))
      have O1 : Hid (OwnB (wr.alloc (.cells #[.int .u8 ((k : Int) % 256)] 5)) w.heap.size (.slice (some ⟨wr.heap.size, 0, Option.none⟩) 1 1) [UInt8.ofNat k]) := Lib.hid (OwnB.one hsz (UInt8.ofNat k) (by simp))
      have B1 := Lib.hid (hbl.alloc hsz (.cells #[.int .u8 ((k : Int) % 256)] 5))
      have D : Hid (dig n = dig (k / 256) ++ ([UInt8.ofNat k] ++ l)) := Lib.hid (by rw [hd, dig_pos hk, List.append_assoc])
      have E : Hid (k / 256 * 256 ^ ([UInt8.ofNat k] ++ l).length ≤ n) := Lib.hid (by
        rw [List.length_append, List.length_singleton, Nat.pow_add, Nat.pow_one, ← Nat.mul_assoc]
        exact Nat.le_trans (Nat.mul_le_mul_right _ (Nat.div_mul_le_self k 256)) hle)
      clear hown hd hle hbl
      go_wp2_with (at_builtin; refine wpList_append_own_bytes rfl _ _ rfl w.heap.size _ [UInt8.ofNat k] rfl O1.out w.heap.size _ l rfl O2.out (by simp; omega) (by simp; omega) ?_; intro v' w1 hown1 hb1 hz1)
      have HO := Lib.hid hown1
      have HB := Lib.hid (hb1 _ B1.out)
      clear hown1 hb1
      go_roundw
      case rel => exact ⟨k / 256, [UInt8.ofNat k] ++ l, by go_num, HO.out, D.out, E.out, HB.out⟩
      case measure => simp [intOf]; omega
    · obtain rfl : k = 0 := by omega
      have hcv := hown.conv
      rw [dig_zero, List.nil_append] at hd
      have HD := Lib.hid hd
      have HB := Lib.hid hbl
      clear hown hd hle hbl hk
      go_wp2
      go_ret
      rw [HD.out]
      exact ⟨rfl, HB.out⟩
end Go.Proofs.Ytdeboidelgnffaa

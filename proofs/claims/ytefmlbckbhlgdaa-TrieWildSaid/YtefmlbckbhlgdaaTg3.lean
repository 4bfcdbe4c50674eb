/- Rlp: items, how they are written and read: plain laws. Rlp: reading: plain laws. Rlp: the reference's reading: plain laws. Rlp: contracts of the program: plain, head. Rlp: contracts of the program: head. Rlp: items in memory. From one contract of a law's call to the given statement of the second form (bulk at most the bound). Rlp: items that come in. Rlp: contracts of the program: deep. Rlp: a queue of items: the call's own row of cells, three an item. Rlp: contracts of the reference: Depth. Rlp: contracts of the reference: pure. Rlp: contracts of the reference: Digits, head; Number, List. Rlp: contracts of the reference: Write. strings.Builder at this program: contracts of copyCheck, Len, WriteString, String (Len's and String's laid out of the library's shelf by its own tool; the two others walked here). -/
import Derived.Laws.AppendOwnNone
import Derived.JoinedCond
import Derived.Lib.SmallJoins
import Derived.Deep.SlicePairs
import Derived.Deep.DeepCutAuto
import Derived.Shelf.Strings.Builder1
import Derived.Test.YtefmlbckbhlgdaaTg0
namespace Go.Proofs.Ytefmlbckbhlgdaa
set_option maxRecDepth 100000
/-- An item: whether it is a list, its bytes, its kids. -/
inductive It where
  | mk (l : Bool) (b : List UInt8) (k : List It)

mutual
/-- How many items there are in one. -/
def It.size : It → Nat
  | .mk _ _ ks => 1 + sizes ks
def sizes : List It → Nat
  | [] => 0
  | k :: ks => k.size + sizes ks
end
mutual
/-- Each one in it is bytes or a list. -/
def It.pure : It → Prop
  | .mk l b ks => (l = true → b = []) ∧ (l = false → ks = []) ∧ pures ks
def pures : List It → Prop
  | [] => True
  | k :: ks => k.pure ∧ pures ks
end
mutual
/-- How deep lists go. -/
def It.depth : It → Nat
  | .mk l _ ks => depths ks + (if l = true then 1 else 0)
def depths : List It → Nat
  | [] => 0
  | k :: ks => max k.depth (depths ks)
end
/-- A number's bytes, the highest first. -/
def dig (n : Nat) : List UInt8 := if n = 0 then [] else dig (n / 256) ++ [UInt8.ofNat n]
termination_by n
decreasing_by omega

theorem dig_zero : dig 0 = [] := by rw [dig]; rfl
theorem dig_pos {n : Nat} (h : 0 < n) : dig n = dig (n / 256) ++ [UInt8.ofNat n] := by rw [dig, if_neg (by omega)]
theorem dig_one {n : Nat} (h : 0 < n) (h' : n < 256) : dig n = [UInt8.ofNat n] := by
  rw [dig_pos h, show n / 256 = 0 by omega, dig_zero]; rfl
theorem dig_two {n : Nat} (h : 256 ≤ n) (h' : n < 65536) : dig n = [UInt8.ofNat (n / 256), UInt8.ofNat n] := by
  rw [dig_pos (by omega), dig_one (by omega) (by omega)]; rfl

/-- What stands ahead of so many bytes. -/
def headL (fr n : Nat) : List UInt8 := if n ≤ 55 then [UInt8.ofNat (fr + n)] else UInt8.ofNat (fr + 55 + (dig n).length) :: dig n

theorem headL_short {fr n : Nat} (h : n ≤ 55) : headL fr n = [UInt8.ofNat (fr + n)] := by rw [headL, if_pos h]
theorem headL_one {fr n : Nat} (h : 55 < n) (h' : n < 256) : headL fr n = [UInt8.ofNat (fr + 56), UInt8.ofNat n] := by
  rw [headL, if_neg (by omega), dig_one (by omega) h']; rfl
theorem headL_two {fr n : Nat} (h : 256 ≤ n) (h' : n < 65536) : headL fr n = [UInt8.ofNat (fr + 57), UInt8.ofNat (n / 256), UInt8.ofNat n] := by
  rw [headL, if_neg (by omega), dig_two h h']; rfl
theorem headL_pos (fr n : Nat) : 1 ≤ (headL fr n).length := by
  unfold headL; split <;> simp

mutual
/-- What an item is written as. -/
def It.write : It → List UInt8
  | .mk l b ks => if l = true then headL 192 (writes ks).length ++ writes ks else if b.length = 1 ∧ (b.getD 0 0).toNat < 128 then b else headL 128 b.length ++ b
def writes : List It → List UInt8
  | [] => []
  | k :: ks => k.write ++ writes ks
end
/-- A head: whether it is a list's, where what it stands ahead of begins, and ends. -/
def cutL : List UInt8 → Option (Bool × Nat × Nat)
  | [] => none
  | c :: s =>
    if c.toNat < 128 then some (false, 0, 1)
    else
      let fr := if 192 ≤ c.toNat then 192 else 128
      let n := c.toNat - fr
      if n ≤ 55 then some (decide (192 ≤ c.toNat), 1, 1 + n)
      else if n = 56 then (match s with | a :: _ => if a.toNat ≤ 55 then none else some (decide (192 ≤ c.toNat), 2, 2 + a.toNat) | [] => none)
      else if n = 57 then (match s with | a :: b :: _ => if a.toNat = 0 then none else some (decide (192 ≤ c.toNat), 3, 3 + (256 * a.toNat + b.toNat)) | _ => none)
      else none

/-- Where a head counts from. -/
def frOf (is : Bool) : Nat := if is = true then 192 else 128

theorem cut_inv {s : List UInt8} {is : Bool} {fr tz : Nat} (h : cutL s = some (is, fr, tz)) :
    (fr = 0 ∧ tz = 1 ∧ is = false ∧ ∃ c t, s = c :: t ∧ c.toNat < 128) ∨ ∃ n t, n < 65536 ∧ s = headL (frOf is) n ++ t ∧ fr = (headL (frOf is) n).length ∧ tz = fr + n := by
  have hc : ∀ c : UInt8, UInt8.ofNat c.toNat = c := fun c => by simp
  match s, h with
  | [], h => simp [cutL] at h
  | c :: s, h =>
    have hlt := c.toNat_lt
    simp only [cutL] at h
    split at h
    · simp at h; exact .inl ⟨h.2.1.symm, h.2.2.symm, h.1, c, s, rfl, by assumption⟩
    · have hf : (if 192 ≤ c.toNat then 192 else 128) = frOf (decide (192 ≤ c.toNat)) := by unfold frOf; simp
      rw [hf] at h
      have hle : frOf (decide (192 ≤ c.toNat)) ≤ c.toNat := by unfold frOf; split <;> simp_all
      obtain ⟨k, hk⟩ := Nat.le.dest hle
      rw [show c.toNat - frOf (decide (192 ≤ c.toNat)) = k by omega] at h
      split at h
      · simp only [Option.some.injEq, Prod.mk.injEq] at h
        obtain ⟨rfl, rfl, rfl⟩ := h
        refine .inr ⟨k, s, by omega, ?_, ?_, ?_⟩
        · rw [headL_short (by omega), hk, hc]; rfl
        · rw [headL_short (by omega)]; rfl
        · rfl
      · split at h
        · match s, h with
          | a :: s, h =>
            have ha := a.toNat_lt
            simp only at h
            split at h
            · simp at h
            · simp only [Option.some.injEq, Prod.mk.injEq] at h
              obtain ⟨rfl, rfl, rfl⟩ := h
              refine .inr ⟨a.toNat, s, by omega, ?_, ?_, rfl⟩
              · rw [headL_one (by omega) (by omega), show frOf (decide (192 ≤ c.toNat)) + 56 = c.toNat by omega, hc, hc]; rfl
              · rw [headL_one (by omega) (by omega)]; rfl
          | [], h => simp at h
        · split at h
          · match s, h with
            | a :: b :: s, h =>
              have ha := a.toNat_lt
              have hb := b.toNat_lt
              simp only at h
              split at h
              · simp at h
              · simp only [Option.some.injEq, Prod.mk.injEq] at h
                obtain ⟨rfl, rfl, rfl⟩ := h
                have q1 : (256 * a.toNat + b.toNat) / 256 = a.toNat := by omega
                have q2 : UInt8.ofNat (256 * a.toNat + b.toNat) = b := by
                  apply UInt8.toNat.inj
                  simp
                refine .inr ⟨256 * a.toNat + b.toNat, s, by omega, ?_, ?_, rfl⟩
                · rw [headL_two (by omega) (by omega), show frOf (decide (192 ≤ c.toNat)) + 57 = c.toNat by omega, hc, q1, hc, q2]; rfl
                · rw [headL_two (by omega) (by omega)]; rfl
            | [a], h => simp at h
            | [], h => simp at h
          · simp at h
end Go.Proofs.Ytefmlbckbhlgdaa
namespace Go.Proofs.Ytefmlbckbhlgdaa
set_option maxRecDepth 100000
mutual
/-- The item that stands first, and what stands behind it. -/
def readL : Nat → List UInt8 → Option (It × List UInt8)
  | 0, _ => none
  | f + 1, s =>
    match cutL s with
    | none => none
    | some (is, fr, tz) =>
      if s.length < tz then none
      else if is = true then (match kidsL f ((s.take tz).drop fr) with | none => none | some ks => some (.mk true [] ks, s.drop tz))
      else if fr = 1 ∧ tz = 2 ∧ (s.getD 1 0).toNat < 128 then none
      else some (.mk false ((s.take tz).drop fr) [], s.drop tz)
def kidsL : Nat → List UInt8 → Option (List It)
  | _, [] => some []
  | 0, _ :: _ => none
  | f + 1, c :: s =>
    match readL f (c :: s) with
    | none => none
    | some (k, t) => (match kidsL f t with | none => none | some ks => some (k :: ks))
end
theorem write_pos : ∀ x : It, x.pure → 1 ≤ x.write.length
  | .mk l b ks, h => by
    rw [It.write]
    split
    · have := headL_pos 192 (writes ks).length; rw [List.length_append]; omega
    · split
      · omega
      · have := headL_pos 128 b.length; rw [List.length_append]; omega

theorem read_sound : ∀ f : Nat, (∀ s x t, readL f s = some (x, t) → s = x.write ++ t ∧ x.pure) ∧ (∀ s ks, kidsL f s = some ks → s = writes ks ∧ pures ks)
  | 0 => by
    refine ⟨fun s x t h => by simp [readL] at h, fun s ks h => ?_⟩
    cases s with
    | nil => simp [kidsL] at h; subst h; simp [writes, pures]
    | cons c s => simp [kidsL] at h
  | f + 1 => by
    obtain ⟨ih1, ih2⟩ := read_sound f
    refine ⟨fun s x t h => ?_, fun s ks h => ?_⟩
    · rw [readL] at h
      cases hc : cutL s with
      | none => simp [hc] at h
      | some q =>
        obtain ⟨is, fr, tz⟩ := q
        simp only [hc] at h
        split at h
        · cases h
        rename_i hto
        rcases cut_inv hc with ⟨rfl, rfl, rfl, c, u, rfl, hlt⟩ | ⟨n, u, hn, rfl, rfl, rfl⟩
        · simp at h
          obtain ⟨rfl, rfl⟩ := h
          simp [It.write, It.pure, pures, hlt]
        · have hl : n ≤ u.length := by rw [List.length_append] at hto; omega
          have e1 : ((headL (frOf is) n ++ u).take ((headL (frOf is) n).length + n)).drop (headL (frOf is) n).length = u.take n := by
            rw [List.take_length_add_append, List.drop_left]
          have e2 : (headL (frOf is) n ++ u).drop ((headL (frOf is) n).length + n) = u.drop n := by
            rw [List.drop_length_add_append]
          rw [e1, e2] at h
          have e3 : (u.take n).length = n := by rw [List.length_take]; omega
          split at h
          · rename_i his
            subst his
            cases hk : kidsL f (u.take n) with
            | none => simp [hk] at h
            | some ks =>
              simp only [hk, Option.some.injEq, Prod.mk.injEq] at h
              obtain ⟨rfl, rfl⟩ := h
              obtain ⟨g1, g2⟩ := ih2 _ _ hk
              refine ⟨?_, by simp [It.pure, g2]⟩
              rw [It.write, if_pos rfl, ← g1, e3, List.append_assoc, List.take_append_drop]
              rfl
          · rename_i his
            have his' : is = false := by simpa using his
            subst his'
            split at h
            · cases h
            rename_i hb
            simp only [Option.some.injEq, Prod.mk.injEq] at h
            obtain ⟨rfl, rfl⟩ := h
            refine ⟨?_, by simp [It.pure, pures]⟩
            rw [It.write, if_neg (by simp), e3]
            by_cases hx : n = 1 ∧ ((u.take n).getD 0 0).toNat < 128
            · exfalso
              obtain ⟨rfl, hx⟩ := hx
              apply hb
              rw [headL_short (by omega)]
              refine ⟨rfl, rfl, ?_⟩
              cases u with
              | nil => simp at hl
              | cons a u => simpa using hx
            · rw [if_neg hx, List.append_assoc, List.take_append_drop]
              rfl
    · cases s with
      | nil => simp [kidsL] at h; subst h; simp [writes, pures]
      | cons c s =>
        rw [kidsL] at h
        cases hr : readL f (c :: s) with
        | none => simp [hr] at h
        | some q =>
          obtain ⟨k, t⟩ := q
          simp only [hr] at h
          cases hk : kidsL f t with
          | none => simp [hk] at h
          | some ks' =>
            simp only [hk, Option.some.injEq] at h
            subst h
            obtain ⟨g1, g2⟩ := ih1 _ _ _ hr
            obtain ⟨g3, g4⟩ := ih2 _ _ hk
            exact ⟨by rw [writes, g1, ← g3], by simp [pures, g2, g4]⟩

end Go.Proofs.Ytefmlbckbhlgdaa
namespace Go.Proofs.Ytefmlbckbhlgdaa
set_option maxRecDepth 100000
/-- What bytes tell, the highest first. -/
def valL (l : List UInt8) : Nat := l.foldl (fun n a => 256 * n + a.toNat) 0

end Go.Proofs.Ytefmlbckbhlgdaa
namespace Go.Proofs.Ytefmlbckbhlgdaa
open Go.RowKit
set_option maxRecDepth 100000
/-- 'append' of the call's own bytes to the call's own bytes. -/
theorem wpList_append_own_bytes {ops : Array Oper} {rest : List Oper} {o : Oper} {a : Act} {Q : Exit → Act → World → Prop} {w : World} (hgd : o.guard = Option.none) (s x : Operand)
    (ho : o.op = .call { callee := .builtin .append, args := #[s, x], argTypes := #[123, 123] }) (base : Nat) (v : Value) (l : List UInt8) (hs : a.eval s = v) (hown : OwnB w base v l)
    (b2 : Nat) (v2 : Value) (news : List UInt8) (hx : a.eval x = v2) (hsrc : OwnB w b2 v2 news)
    (hb : l.length + news.length ≤ 140737488355328) (hbase : base ≤ w.heap.size)
    (h : ∀ v' w', OwnB w' base v' (l ++ news) → (∀ w0, Below base w0 w → Below base w0 w') → w.heap.size ≤ w'.heap.size → wpList Try.prog ops Q rest (a.put o.dst v') w') : wpList Try.prog ops Q (o :: rest) a w := by
  obtain ⟨i0, hi, hz0, hz1, hz2⟩ := info_parts info_u8
  rcases hsrc.2 with ⟨hv, hn⟩ | ⟨g, cap, cur, hv, hg, hc, hn, hcap, hsz, hx'⟩
  · obtain rfl : news = [] := List.eq_nil_of_length_eq_zero hn
    subst hv
    refine wpList_append_own_none hgd s x 123 ho base 5 i0 1 Try.underlying123 hi v l.length (bvals l) hs hown hx ?_
    refine h v w ?_ (fun _ h => h) (Nat.le_refl _)
    rw [List.append_nil]
    exact hown
  · subst hv
    refine wpList_append_bytes hgd s x ho base v l hs hown ⟨g, 0, none⟩ news.length cap news hx rfl (fun j hj => ?_) hb hbase h
    refine World.ownsRow.cells hsrc rfl j _ ?_
    simp [bvals, List.getElem?_eq_getElem hj]

set_option maxHeartbeats 1000000 in
theorem plain_any (n : Nat) (w : World) (hn : n < 18446744073709551616) :
    Calls Try.prog 163 #[.int .u64 n] w fun e w' => e = .returned (.string (mkS (dig n))) ∧ Below w.heap.size w w' := by
  go_enter Try.func163, Try.ntmps163
  go_wp2
  go_loopw [0, 3] (fun s0 s3 wr => ∃ (k : Nat) (l : List UInt8), s0 = .int .u64 k ∧ OwnB wr w.heap.size s3 l ∧ dig n = dig k ++ l ∧ k * 256 ^ l.length ≤ n ∧ Below w.heap.size w wr) (fun s0 _ _ => (intOf s0).toNat)
  case atStart => exact ⟨n, [], rfl, OwnB.nil _ _, by simp, by simp, Below.refl _ _⟩
  case round =>
    obtain ⟨k, l, rfl, hown, hd, hle, hbl⟩ := hrel
    by_cases hk : 0 < k
    · have h8 : l.length ≤ 7 := by
        rcases Nat.lt_or_ge l.length 8 with h | h
        · omega
        · have h1 := Nat.pow_le_pow_right (n := 256) (by decide) h
          have h2 : 256 ^ l.length ≤ k * 256 ^ l.length := Nat.le_mul_of_pos_left _ hk
          omega
      have hkn : k < 18446744073709551616 := by
        have := Nat.le_mul_of_pos_right k (Nat.pow_pos (n := l.length) (show 0 < 256 by decide))
        omega
      have hsz := hbl.size
      have O2 := Lib.hid (hown.alloc (.cells #[.int .u8 ((k : Int) % 256)] 5))
      have O1 : Hid (OwnB (wr.alloc (.cells #[.int .u8 ((k : Int) % 256)] 5)) w.heap.size (.slice (some ⟨wr.heap.size, 0, Option.none⟩) 1 1) [UInt8.ofNat k]) := Lib.hid (OwnB.one hsz (UInt8.ofNat k) (by simp))
      have B1 := Lib.hid (hbl.alloc hsz (.cells #[.int .u8 ((k : Int) % 256)] 5))
      have D : Hid (dig n = dig (k / 256) ++ ([UInt8.ofNat k] ++ l)) := Lib.hid (by rw [hd, dig_pos hk, List.append_assoc])
      have E : Hid (k / 256 * 256 ^ ([UInt8.ofNat k] ++ l).length ≤ n) := Lib.hid (by
        rw [List.length_append, List.length_singleton, Nat.pow_add, Nat.pow_one, ← Nat.mul_assoc]
        exact Nat.le_trans (Nat.mul_le_mul_right _ (Nat.div_mul_le_self k 256)) hle)
      clear hown hd hle hbl
      go_wp2_with (at_builtin; refine wpList_append_own_bytes rfl _ _ rfl w.heap.size _ [UInt8.ofNat k] rfl O1.out w.heap.size _ l rfl O2.out (by simp; omega) (by simp; omega) ?_; intro v' w1 hown1 hb1 hz1)
      have HO := Lib.hid hown1
      have HB := Lib.hid (hb1 _ B1.out)
      clear hown1 hb1
      go_roundw
      case rel => exact ⟨k / 256, [UInt8.ofNat k] ++ l, by go_num, HO.out, D.out, E.out, HB.out⟩
      case measure => simp [intOf]; omega
    · obtain rfl : k = 0 := by omega
      have hcv := hown.conv
      rw [dig_zero, List.nil_append] at hd
      have HD := Lib.hid hd
      have HB := Lib.hid hbl
      clear hown hd hle hbl hk
      go_wp2
      go_ret
      rw [HD.out]
      exact ⟨rfl, HB.out⟩
end Go.Proofs.Ytefmlbckbhlgdaa
namespace Go.Proofs.Ytefmlbckbhlgdaa
open Go.RowKit
set_option maxRecDepth 100000
theorem dig_len : ∀ (k n : Nat), n < 256 ^ k → (dig n).length ≤ k
  | 0, n, h => by rw [show n = 0 by simpa using h, dig_zero]; exact Nat.le_refl _
  | k + 1, n, h => by
    rcases Nat.eq_zero_or_pos n with rfl | h0
    · rw [dig_zero]; simp
    · rw [dig_pos h0, List.length_append, List.length_singleton]
      have := dig_len k (n / 256) (by rw [Nat.pow_succ] at h; omega)
      omega

set_option maxHeartbeats 1000000 in
theorem head_any (fr n : Nat) (w : World) (hf : fr = 128 ∨ fr = 192) (hn : n < 9223372036854775808) :
    Calls Try.prog 134 #[.int .u8 fr, .int .i64 n] w fun e w' => e = .returned (.string (mkS (headL fr n))) ∧ Below w.heap.size w w' := by
  have hf2 : fr ≤ 192 := by omega
  by_cases h : n ≤ 55
  · obtain ⟨c, hc, hx⟩ : ∃ c : UInt8, UInt8.ofNat (fr + n) = c ∧ (fr : Int) + n = (c.toNat : Int) := ⟨_, rfl, by simp; omega⟩
    have hcv := (OwnB.one (w := w) (Nat.le_refl _) c hx).conv
    have B1 := Lib.hid ((Below.refl w.heap.size w).alloc (Nat.le_refl _) (.cells #[.int .u8 ((fr : Int) + n)] 5))
    rw [headL_short h, hc]
    have s1 : ((n : Int) % 256) = n := by omega
    have s2 : IntKind.u8.wrap ((fr : Int) + n) = (fr : Int) + n := by simp [IntKind.wrap, IntKind.bits, IntKind.signed]; omega
    clear hf hc hx
    go_enter Try.func134, Try.ntmps134
    go_wp2
    go_ret
    exact ⟨rfl, B1.out⟩
  · have hl := dig_len 8 n (by omega)
    have KP := Lib.hid (fun w => plain_any n w (by omega))
    rw [headL, if_neg h]
    have hl0 : 1 ≤ (dig n).length := by rw [dig_pos (by omega), List.length_append]; simp
    have hz : (mkS (dig n)).size = (dig n).length := mk_size _
    obtain ⟨c, hc, hx⟩ : ∃ c : UInt8, UInt8.ofNat (fr + 55 + (dig n).length) = c ∧ (fr : Int) + 55 + (dig n).length = (c.toNat : Int) := ⟨_, rfl, by simp; omega⟩
    rw [hc]
    have E : Hid ((⟨[c].toArray⟩ : ByteArray) ++ mkS (dig n) = mkS (c :: dig n)) := Lib.hid (mk_append [c] (dig n))
    generalize mkS (c :: dig n) = R at *
    generalize (dig n).length = m at *
    generalize mkS (dig n) = D at *
    have s1 : ((m : Int) % 256) = m := by omega
    have HX := Lib.hid hx
    clear hf hc hx
    go_enter Try.func134, Try.ntmps134
    go_wp2_with fail
    refine (KP.out _).mono ?_
    rintro e w1 ⟨rfl, hb⟩
    have hcv := (OwnB.one (w := w1) (Nat.le_refl _) c HX.out).conv
    have B1 := Lib.hid (hb.alloc hb.size (.cells #[.int .u8 ((fr : Int) + 55 + m)] 5))
    clear hb
    go_wp2
    go_ret
    exact ⟨by rw [← E.out]; rfl, B1.out⟩
end Go.Proofs.Ytefmlbckbhlgdaa
namespace Go.Proofs.Ytefmlbckbhlgdaa
open Go.RowKit
set_option maxRecDepth 100000
/-- An item as a value. -/
abbrev itemV (l : Bool) (b : List UInt8) (kv : Value) : Value := .agg #[.bool l, .string (mkS b), kv]

mutual
/-- The value reads as the item. -/
def ItemIs (w : World) : It → Value → Prop
  | .mk l b ks, v => ∃ kv, v = itemV l b kv ∧ b.length ≤ 9223372036854775807 ∧
      ((kv = .slice none 0 0 ∧ ks = []) ∨ ∃ (a : Addr) (len cap : Nat), kv = .slice (some a) len cap ∧ len ≤ cap ∧ cap ≤ 9223372036854775807 ∧ ks.length = len ∧ KidsAt w ks a 0)
/-- From element 'i' on the items lie there. -/
def KidsAt (w : World) : List It → Addr → Nat → Prop
  | [], _, _ => True
  | k :: ks, a, i => (∃ v0 v1 v2, w.cell? (a.add (i * 3)) = some v0 ∧ w.cell? (a.add (i * 3 + 1)) = some v1 ∧ w.cell? (a.add (i * 3 + 2)) = some v2 ∧ ItemIs w k (.agg #[v0, v1, v2])) ∧ KidsAt w ks a (i + 1)
end
/-- A slice of items. -/
def KidsIs (w : World) (ks : List It) (kv : Value) : Prop :=
  (kv = .slice none 0 0 ∧ ks = []) ∨ ∃ (a : Addr) (len cap : Nat), kv = .slice (some a) len cap ∧ len ≤ cap ∧ cap ≤ 9223372036854775807 ∧ ks.length = len ∧ KidsAt w ks a 0

theorem itemIs_iff {w : World} {l : Bool} {b : List UInt8} {ks : List It} {v : Value} : ItemIs w (.mk l b ks) v ↔ ∃ kv, v = itemV l b kv ∧ b.length ≤ 9223372036854775807 ∧ KidsIs w ks kv := by
  rw [ItemIs]; rfl

mutual
theorem ItemIs.below {w w' : World} {B : Nat} (hb : Below B w w') (hB : w.heap.size ≤ B) : ∀ (x : It) (v : Value), ItemIs w x v → ItemIs w' x v
  | .mk l b ks, v, h => by
    rw [ItemIs] at h ⊢
    obtain ⟨kv, e, h1, h2⟩ := h
    refine ⟨kv, e, h1, ?_⟩
    rcases h2 with h2 | ⟨a, len, cap, g1, g2, g3, g4, g5⟩
    · exact .inl h2
    · exact .inr ⟨a, len, cap, g1, g2, g3, g4, KidsAt.below hb hB ks a 0 g5⟩
theorem KidsAt.below {w w' : World} {B : Nat} (hb : Below B w w') (hB : w.heap.size ≤ B) : ∀ (ks : List It) (a : Addr) (i : Nat), KidsAt w ks a i → KidsAt w' ks a i
  | [], _, _, _ => by rw [KidsAt]; trivial
  | k :: ks, a, i, h => by
    rw [KidsAt] at h ⊢
    obtain ⟨⟨v0, v1, v2, c0, c1, c2, hi⟩, ht⟩ := h
    have hl := fun {p v} (c : w.cell? p = some v) => Nat.lt_of_lt_of_le (block_lt_of_cell c) hB
    exact ⟨⟨v0, v1, v2, by rw [hb.cell (hl c0)]; exact c0, by rw [hb.cell (hl c1)]; exact c1, by rw [hb.cell (hl c2)]; exact c2, ItemIs.below hb hB k _ hi⟩, KidsAt.below hb hB ks a (i + 1) ht⟩
end
theorem KidsIs.below {w w' : World} {B : Nat} {ks : List It} {v : Value} (h : KidsIs w ks v) (hb : Below B w w') (hB : w.heap.size ≤ B) : KidsIs w' ks v := by
  rcases h with h | ⟨a, len, cap, g1, g2, g3, g4, g5⟩
  · exact .inl h
  · exact .inr ⟨a, len, cap, g1, g2, g3, g4, KidsAt.below hb hB ks a 0 g5⟩

theorem KidsAt.get {w : World} {a : Addr} : ∀ (ks : List It) (j : Nat), KidsAt w ks a j → ∀ i k, ks[i]? = some k →
    ∃ v0 v1 v2, w.cell? (a.add ((j + i) * 3)) = some v0 ∧ w.cell? (a.add ((j + i) * 3 + 1)) = some v1 ∧ w.cell? (a.add ((j + i) * 3 + 2)) = some v2 ∧ ItemIs w k (.agg #[v0, v1, v2])
  | [], _, _, i, k, hk => by simp at hk
  | x :: ks, j, h, 0, k, hk => by
    rw [KidsAt] at h
    simp at hk
    subst hk
    exact h.1
  | x :: ks, j, h, i + 1, k, hk => by
    rw [KidsAt] at h
    have := KidsAt.get ks (j + 1) h.2 i k (by simpa using hk)
    rwa [show j + 1 + i = j + (i + 1) by omega] at this

/-- What a slice of items has. -/
theorem KidsIs.parts {w : World} {ks : List It} {v : Value} (h : KidsIs w ks v) : ∃ (p : Option Addr) (cap : Nat), v = .slice p ks.length cap ∧ ks.length ≤ cap ∧ cap ≤ 9223372036854775807 ∧
    ∀ i k, ks[i]? = some k → ∃ a l b p' n' c', p = some a ∧ w.cell? (a.add (i * 3)) = some (.bool l) ∧ w.cell? (a.add (i * 3 + 1)) = some (.string b) ∧ w.cell? (a.add (i * 3 + 2)) = some (.slice p' n' c') ∧ ItemIs w k (.agg #[.bool l, .string b, .slice p' n' c']) := by
  rcases h with ⟨rfl, rfl⟩ | ⟨a, len, cap, rfl, g2, g3, rfl, g5⟩
  · exact ⟨none, 0, rfl, Nat.le_refl _, Nat.zero_le _, fun i k hk => by simp at hk⟩
  · refine ⟨some a, cap, rfl, g2, g3, fun i k hk => ?_⟩
    obtain ⟨v0, v1, v2, c0, c1, c2, hi⟩ := KidsAt.get ks 0 g5 i k hk
    rw [Nat.zero_add] at c0 c1 c2
    obtain ⟨l, b, kk⟩ := k
    obtain ⟨kv, e, _, hk'⟩ := itemIs_iff.1 hi
    injection e with e
    simp at e
    obtain ⟨rfl, rfl, rfl⟩ := e
    rcases hk' with ⟨rfl, _⟩ | ⟨a', len', cap', rfl, _⟩
    · exact ⟨a, l, mkS b, none, 0, 0, rfl, c0, c1, c2, hi⟩
    · exact ⟨a, l, mkS b, some a', len', cap', rfl, c0, c1, c2, hi⟩
end Go.Proofs.Ytefmlbckbhlgdaa
namespace Go.Proofs.Ytefmlbckbhlgdaa
open Go.ChangeShapes Go.WideShapes Go.ChangeAt Go.RowKit
/-- What the contract of a law's call is told of the call's arguments, of bulk at most the bound. -/
structure ToldUpto {H : Type} (enc : TypeId × Value → H) (P : Program) (ts : List TypeId) (W : World) (args : List Value) (ds : List (DataW H)) (p : List MemPlace) : Prop where
  trod : DataW.TrodAll enc P W 0 (fun _ => true) true ts args ds p
  ok : ∃ base, ∀ (j : Nat) t v, ts[j]? = some t → args[j]? = some v → Value.okWide P W .any base t v
  lt : ∀ x ∈ p, x.block < W.heap.size
  small : Rows.uptoSmall H ds = true

end Go.Proofs.Ytefmlbckbhlgdaa
namespace Go.Proofs.Ytefmlbckbhlgdaa
open Go.RowKit Go.ChangeShapes Go.WideShapes Go.ChangeAt
set_option maxRecDepth 100000
mutual
/-- How many items and bytes there are in one. -/
def It.weight : It → Nat
  | .mk _ b ks => 1 + b.length + weights ks
def weights : List It → Nat
  | [] => 0
  | k :: ks => k.weight + weights ks
end
end Go.Proofs.Ytefmlbckbhlgdaa
namespace Go.Proofs.Ytefmlbckbhlgdaa
open Go.RowKit
set_option maxRecDepth 100000
theorem It.size_pos : ∀ x : It, 1 ≤ x.size
  | .mk l b ks => by rw [It.size]; omega

mutual
theorem It.depth_le : ∀ x : It, x.depth ≤ x.size
  | .mk l b ks => by
    rw [It.depth, It.size]
    have := depths_le ks
    split <;> omega
theorem depths_le : ∀ ks : List It, depths ks ≤ sizes ks
  | [] => by rw [depths, sizes]; exact Nat.le_refl _
  | k :: ks => by
    rw [depths, sizes]
    have := It.depth_le k
    have := depths_le ks
    omega
end
theorem depths_append : ∀ (xs ys : List It), depths (xs ++ ys) = max (depths xs) (depths ys)
  | [], ys => by rw [List.nil_append, depths]; omega
  | x :: xs, ys => by rw [List.cons_append, depths, depths, depths_append xs ys]; omega

theorem sizes_append : ∀ (xs ys : List It), sizes (xs ++ ys) = sizes xs + sizes ys
  | [], ys => by rw [List.nil_append, sizes]; omega
  | x :: xs, ys => by rw [List.cons_append, sizes, sizes, sizes_append xs ys]; omega

theorem sizes_get {ks : List It} {i : Nat} {k : It} (h : ks[i]? = some k) : k.size ≤ sizes ks := by
  obtain ⟨hi, rfl⟩ := List.getElem?_eq_some_iff.1 h
  have e : ks = ks.take i ++ (ks[i] :: ks.drop (i + 1)) := by rw [List.getElem_cons_drop, List.take_append_drop]
  have := congrArg sizes e
  rw [sizes_append, sizes] at this
  omega

theorem pures_get : ∀ {ks : List It} {i : Nat} {k : It}, pures ks → ks[i]? = some k → k.pure
  | [], i, k, _, h => by simp at h
  | x :: ks, 0, k, hp, h => by simp at h; subst h; exact hp.1
  | x :: ks, i + 1, k, hp, h => pures_get hp.2 (by simpa using h)

theorem depths_take {ks : List It} {i : Nat} {k : It} (h : ks[i]? = some k) : depths (ks.take (i + 1)) = max (depths (ks.take i)) k.depth := by
  rw [List.take_add_one, h, depths_append]
  simp [depths]

abbrev itemO (l : Bool) (b : ByteArray) (kv : Value) : Obj := .cells #[.bool l, .string b, kv] 98

set_option maxHeartbeats 1000000 in
theorem deep_any : ∀ (n : Nat) (x : It), x.size ≤ n → x.pure → x.size ≤ 1000000 → ∀ (v : Value) (w : World), ItemIs w x v →
    Calls Try.prog 84 #[v] w fun e w' => e = .returned (.int .i64 x.depth) ∧ Below w.heap.size w w'
  | 0, x, h, _, _, _, _, _ => by have := x.size_pos; omega
  | n + 1, .mk l b ks, hsz, hp, hs, v, w, hv => by
    obtain ⟨kv, rfl, hbz, hk⟩ := itemIs_iff.1 hv
    have KI := Lib.hid (deep_any n)
    clear hv
    cases l with
    | false =>
      obtain rfl := hp.2.1 rfl
      have L : Hid (RowAt (w.alloc (itemO false (mkS b) kv)) w.heap.size #[.bool false, .string (mkS b), kv] 98) := Lib.hid (RowAt.new _ _ _)
      have B : Hid (Below w.heap.size w (w.alloc (itemO false (mkS b) kv))) := Lib.hid ((Below.refl _ _).alloc (Nat.le_refl _) _)
      have E : Hid ((It.mk false b []).depth = 0) := Lib.hid (by simp [It.depth, depths])
      obtain ⟨p, cap, rfl, _⟩ := hk.parts
      clear hk hp hsz hs
      obtain ⟨a0, a1, a2, af0, af1, af2⟩ := L.out.c3
      go_enter Try.func84, Try.ntmps84
      go_wp2
      go_ret
      rw [E.out]
      exact ⟨rfl, B.out⟩
    | true =>
      obtain ⟨p, cap, rfl, h1, h2, hg⟩ := hk.parts
      rw [It.size] at hsz hs
      have hdl := depths_le ks
      have HG := Lib.hid hg
      have HS := Lib.hid (fun i k (h : ks[i]? = some k) => (⟨by have := sizes_get h; omega, pures_get hp.2.2 h, by have := sizes_get h; omega⟩ : k.size ≤ n ∧ k.pure ∧ k.size ≤ 1000000))
      have HD := Lib.hid (fun i k (h : ks[i]? = some k) => depths_take h)
      have E : Hid ((It.mk true b ks).depth = depths (ks.take ks.length) + 1) := Lib.hid (by simp [It.depth])
      have HL := Lib.hid (fun i => (by have := depths_le (ks.take i); have h := congrArg sizes (List.take_append_drop i ks); rw [sizes_append] at h; omega : depths (ks.take i) ≤ 1000000))
      have L : Hid (RowAt (w.alloc (itemO true (mkS b) (.slice p ks.length cap))) w.heap.size #[.bool true, .string (mkS b), .slice p ks.length cap] 98) := Lib.hid (RowAt.new _ _ _)
      have B : Hid (Below w.heap.size w (w.alloc (itemO true (mkS b) (.slice p ks.length cap)))) := Lib.hid ((Below.refl _ _).alloc (Nat.le_refl _) _)
      have D0 : Hid (depths (ks.take 0) = 0) := Lib.hid (by simp [depths])
      clear hk hp hsz hs hg hdl hbz
      generalize hm : ks.length = m at *
      have HM := Lib.hid hm
      clear hm
      obtain ⟨a0, a1, a2, af0, af1, af2⟩ := L.out.c3
      go_enter Try.func84, Try.ntmps84
      go_wp2
      go_loopw [3, 12] (fun d i wr => ∃ k : Nat, k ≤ m ∧ i = .int .i64 k ∧ d = .int .i64 (depths (ks.take k)) ∧ Below w.heap.size w wr) (fun _ i _ => m - (intOf i).toNat)
      case atStart => exact ⟨0, Nat.zero_le _, rfl, by rw [D0.out]; rfl, B.out⟩
      case round =>
        obtain ⟨k, hk, rfl, rfl, hbl⟩ := hrel
        have HB := Lib.hid hbl
        clear hbl L B
        by_cases hlt : k < m
        · obtain ⟨x, hx⟩ : ∃ x, ks[k]? = some x := ⟨_, List.getElem?_eq_getElem (by rw [HM.out]; exact hlt)⟩
          obtain ⟨a, l', b', p', n', c', rfl, c0, c1, c2, hi⟩ := HG.out k x hx
          obtain ⟨g1, g2, g3⟩ := HS.out k x hx
          have HX := Lib.hid (ItemIs.below HB.out (Nat.le_refl _) _ _ hi)
          have q0 : wr.cell? (a.add (k * 3)) = some (.bool l') := by rw [HB.out.cell (block_lt_of_cell c0)]; exact c0
          have q1 : wr.cell? ⟨(a.add (k * 3)).block, (a.add (k * 3)).off + 1, none⟩ = some (.string b') := by
            have e : (⟨(a.add (k * 3)).block, (a.add (k * 3)).off + 1, none⟩ : Addr) = a.add (k * 3 + 1) := by rw [← Go.Deep.add_add]; rfl
            rw [e, HB.out.cell (block_lt_of_cell c1)]
            exact c1
          have q2 : wr.cell? ⟨(a.add (k * 3)).block, (a.add (k * 3)).off + 2, none⟩ = some (.slice p' n' c') := by
            have e : (⟨(a.add (k * 3)).block, (a.add (k * 3)).off + 2, none⟩ : Addr) = a.add (k * 3 + 2) := by rw [← Go.Deep.add_add]; rfl
            rw [e, HB.out.cell (block_lt_of_cell c2)]
            exact c2
          clear hi c0 c1 c2
          have L : Hid (RowAt (wr.alloc (itemO l' b' (.slice p' n' c'))) wr.heap.size #[.bool l', .string b', (.slice p' n' c')] 98) := Lib.hid (RowAt.new _ _ _)
          replace HB := Lib.hid (HB.out.alloc HB.out.size (itemO l' b' (.slice p' n' c')))
          replace HX := Lib.hid (ItemIs.below ((Below.refl wr.heap.size wr).alloc (Nat.le_refl _) (itemO l' b' (.slice p' n' c'))) (Nat.le_refl _) _ _ HX.out)
          have HD1 := Lib.hid (HD.out k x hx)
          have hd1 := HL.out k
          have hd2 := HL.out (k + 1)
          obtain ⟨a0, a1, a2, af0, af1, af2⟩ := L.out.c3
          go_wp2_with fail
          refine (KI.out x g1 g2 g3 _ _ HX.out).mono ?_
          rintro e w2 ⟨rfl, hb⟩
          (replace HB := Lib.hid (HB.out.trans (hb.mono HB.out.size)); clear hb)
          rw [HD1.out] at hd2
          generalize depths (ks.take k) = d at *
          generalize x.depth = dx at *
          go_wp2_with fail
          go_roundw
          case rel => exact ⟨k + 1, by omega, by go_num, by rw [HD1.out]; go_num, HB.out⟩
          case measure => simp [intOf]; omega
        · obtain rfl : k = m := by omega
          have hd := HL.out k
          have E1 := Lib.hid E.out
          generalize depths (ks.take k) = d at *
          go_wp2
          go_ret
          rw [E1.out]
          exact ⟨by go_num, HB.out⟩
end Go.Proofs.Ytefmlbckbhlgdaa
namespace Go.Proofs.Ytefmlbckbhlgdaa
open Go.RowKit
set_option maxRecDepth 100000
/-- An item's three cells. -/
abbrev IV := Bool × ByteArray × (Option Addr × Nat × Nat)
def IV.kids (x : IV) : Value := .slice x.2.2.1 x.2.2.2.1 x.2.2.2.2
def cells3 (x : IV) : List Value := [.bool x.1, .string x.2.1, x.kids]
def IV.val (x : IV) : Value := .agg #[.bool x.1, .string x.2.1, x.kids]
def flat3 : List IV → List Value
  | [] => []
  | x :: l => cells3 x ++ flat3 l

theorem flat3_length : ∀ l : List IV, (flat3 l).length = l.length * 3
  | [] => rfl
  | x :: l => by rw [flat3, List.length_append, flat3_length l, List.length_cons]; simp [cells3]; omega

theorem flat3_append : ∀ l m : List IV, flat3 (l ++ m) = flat3 l ++ flat3 m
  | [], m => rfl
  | x :: l, m => by rw [List.cons_append, flat3, flat3, flat3_append l m, List.append_assoc]

theorem flat3_get : ∀ (l : List IV) (i : Nat) (x : IV), l[i]? = some x → (flat3 l)[i * 3]? = some (.bool x.1) ∧ (flat3 l)[i * 3 + 1]? = some (.string x.2.1) ∧ (flat3 l)[i * 3 + 2]? = some x.kids
  | [], i, x, h => by simp at h
  | y :: l, 0, x, h => by simp at h; subst h; exact ⟨rfl, rfl, rfl⟩
  | y :: l, i + 1, x, h => by
    obtain ⟨h1, h2, h3⟩ := flat3_get l i x (by simpa using h)
    have e : ∀ j, (flat3 (y :: l))[(i + 1) * 3 + j]? = (flat3 l)[i * 3 + j]? := fun j => by
      rw [flat3, List.getElem?_append_right (by simp [cells3]; omega)]
      congr 1
      simp [cells3]
      omega
    exact ⟨(e 0).trans h1, (e 1).trans h2, (e 2).trans h3⟩

theorem flat3_one : ∀ l : List IV, ∀ u ∈ flat3 l, u.oneCell' = true
  | [], u, h => by cases h
  | x :: l, u, h => by
    rw [flat3] at h
    rcases List.mem_append.1 h with h | h
    · simp only [cells3, List.mem_cons, List.not_mem_nil, or_false] at h
      rcases h with rfl | rfl | rfl <;> rfl
    · exact flat3_one l u h

/-- The items lie in the triples. -/
def QIs (w : World) : List It → List IV → Prop
  | [], [] => True
  | k :: q, x :: l => ItemIs w k x.val ∧ QIs w q l
  | _, _ => False

theorem QIs.length {w : World} : ∀ {q : List It} {l : List IV}, QIs w q l → q.length = l.length
  | [], [], _ => rfl
  | k :: q, x :: l, h => by rw [List.length_cons, List.length_cons, QIs.length h.2]
  | [], _ :: _, h => by cases h
  | _ :: _, [], h => by cases h

theorem QIs.append {w : World} {q' : List It} {l' : List IV} (h' : QIs w q' l') : ∀ {q : List It} {l : List IV}, QIs w q l → QIs w (q ++ q') (l ++ l')
  | [], [], _ => h'
  | k :: q, x :: l, h => ⟨h.1, QIs.append h' h.2⟩
  | [], _ :: _, h => by cases h
  | _ :: _, [], h => by cases h

theorem QIs.below {w w' : World} {B : Nat} (hb : Below B w w') (hB : w.heap.size ≤ B) : ∀ {q : List It} {l : List IV}, QIs w q l → QIs w' q l
  | [], [], _ => trivial
  | k :: q, x :: l, h => ⟨ItemIs.below hb hB k _ h.1, QIs.below hb hB h.2⟩
  | [], _ :: _, h => by cases h
  | _ :: _, [], h => by cases h

theorem QIs.get {w : World} : ∀ {q : List It} {l : List IV} {i : Nat} {k : It}, QIs w q l → q[i]? = some k → ∃ x, l[i]? = some x ∧ ItemIs w k x.val
  | k' :: q, x :: l, 0, k, h, hk => by simp at hk; subst hk; exact ⟨x, rfl, h.1⟩
  | k' :: q, x :: l, i + 1, k, h, hk => by
    obtain ⟨y, h1, h2⟩ := QIs.get (i := i) h.2 (by simpa using hk)
    exact ⟨y, by simpa using h1, h2⟩
  | [], _, i, k, _, hk => by simp at hk
  | _ :: _, [], _, _, h, _ => by cases h

/-- An item's triple. -/
theorem itemIs_val {w : World} {k : It} {v : Value} (h : ItemIs w k v) : ∃ x : IV, v = x.val := by
  obtain ⟨l, b, ks⟩ := k
  obtain ⟨kv, rfl, _, hk⟩ := itemIs_iff.1 h
  obtain ⟨p, cap, rfl, _⟩ := hk.parts
  exact ⟨(l, mkS b, p, ks.length, cap), rfl⟩

theorem KidsAt.list {w : World} {a : Addr} : ∀ (ks : List It) (i : Nat), KidsAt w ks a i → ∃ l : List IV, QIs w ks l ∧ ∀ j u, (flat3 l)[j]? = some u → w.cell? (a.add (i * 3 + j)) = some u
  | [], i, _ => ⟨[], trivial, fun j u h => by simp [flat3] at h⟩
  | k :: ks, i, h => by
    rw [KidsAt] at h
    obtain ⟨⟨v0, v1, v2, c0, c1, c2, hi⟩, ht⟩ := h
    obtain ⟨l, hl, hc⟩ := KidsAt.list ks (i + 1) ht
    obtain ⟨x, hx⟩ := itemIs_val hi
    have e := hx
    unfold IV.val at e
    injection e with e
    simp at e
    obtain ⟨rfl, rfl, rfl⟩ := e
    refine ⟨x :: l, ⟨by rw [← hx]; exact hi, hl⟩, fun j u hj => ?_⟩
    rw [flat3] at hj
    match j, hj with
    | 0, hj => simp [cells3] at hj; subst hj; exact c0
    | 1, hj => simp [cells3] at hj; subst hj; exact c1
    | 2, hj => simp [cells3] at hj; subst hj; exact c2
    | j + 3, hj =>
      have := hc j u (by simpa [cells3] using hj)
      rwa [show (i + 1) * 3 + j = i * 3 + (j + 3) by omega] at this
end Go.Proofs.Ytefmlbckbhlgdaa
namespace Go.Proofs.Ytefmlbckbhlgdaa
open Go.RowKit
set_option maxRecDepth 100000
end Go.Proofs.Ytefmlbckbhlgdaa
namespace Go.Proofs.Ytefmlbckbhlgdaa
open Go.RowKit
set_option maxRecDepth 100000
mutual
def It.pureB : It → Bool
  | .mk l b ks => (if l = true then b.isEmpty else ks.isEmpty) && puresB ks
def puresB : List It → Bool
  | [] => true
  | k :: ks => k.pureB && puresB ks
end
mutual
theorem pureB_iff : ∀ x : It, x.pureB = true ↔ x.pure
  | .mk l b ks => by
    rw [It.pureB, It.pure, Bool.and_eq_true, puresB_iff ks]
    cases l <;> simp
theorem puresB_iff : ∀ ks : List It, puresB ks = true ↔ pures ks
  | [] => by simp [puresB, pures]
  | k :: ks => by rw [puresB, pures, Bool.and_eq_true, pureB_iff k, puresB_iff ks]
end
end Go.Proofs.Ytefmlbckbhlgdaa
namespace Go.Proofs.Ytefmlbckbhlgdaa
open Go.RowKit
set_option maxRecDepth 100000
end Go.Proofs.Ytefmlbckbhlgdaa
namespace Go.Proofs.Ytefmlbckbhlgdaa
open Go.RowKit
set_option maxRecDepth 100000
theorem writes_append : ∀ xs ys : List It, writes (xs ++ ys) = writes xs ++ writes ys
  | [], ys => by rw [List.nil_append, writes, List.nil_append]
  | x :: xs, ys => by rw [List.cons_append, writes, writes, writes_append xs ys, List.append_assoc]

theorem writes_take {ks : List It} {i : Nat} {k : It} (h : ks[i]? = some k) : writes (ks.take (i + 1)) = writes (ks.take i) ++ k.write := by
  rw [List.take_add_one, h, writes_append]
  simp [writes]

theorem writes_take_le (ks : List It) (i : Nat) : (writes (ks.take i)).length ≤ (writes ks).length := by
  have h := congrArg List.length (congrArg writes (List.take_append_drop i ks))
  rw [writes_append, List.length_append] at h
  omega

end Go.Proofs.Ytefmlbckbhlgdaa
namespace Go.Proofs.Ytefmlbckbhlgdaa
open Go.RowKit Go.Shelf
set_option maxRecDepth 100000
def bldLenRen : Go.Shelf.Ren := ⟨fun | 170 => 135 | n => n, fun | 70 => 184 | 3 => 3 | 0 => 0 | 72 => 186 | 37 => 123 | 5 => 5 | n => n, fun | n => n⟩
theorem bldLenLays : Go.Proofs.Lays.n170 Try.prog bldLenRen := {
  mixed := by kernel_rfl
  f170 := Try.func135.trans (congrArg some (by kernel_rfl))
  t0 := Try.underlying0
  a0 := Try.isAgg0
  z0 := Try.sizeOf0
  v0 := Try.zeroValue0
  t3 := Try.underlying3
  a3 := Try.isAgg3
  z3 := Try.sizeOf3
  v3 := Try.zeroValue3
  t37 := Try.underlying123
  a37 := Try.isAgg123
  z37 := Try.sizeOf123
  v37 := Try.zeroValue123
  t70 := Try.underlying184
  a70 := Try.isAgg184
  z70 := Try.sizeOf184
  v70 := Try.zeroValue184
  t72 := Try.underlying186
  a72 := Try.isAgg186
  z72 := Try.sizeOf186
  v72 := Try.zeroValue186 }

theorem bld_len (B b : Nat) (bs : List Value) (w : World) (h : Lib.IsBuilder 186 5 B b bs w) :
    Calls Try.prog 135 #[.pointer (some ⟨b, 0, none⟩)] w fun e w' => e = .returned (.int .i64 bs.length) ∧ w' = w := Any.Builder_Len bldLenLays B b bs w h

def bldStrRen : Go.Shelf.Ren := ⟨fun | 169 => 136 | n => n, fun | 70 => 184 | 9 => 9 | 0 => 0 | 72 => 186 | 37 => 123 | 127 => 223 | 3 => 3 | 5 => 5 | n => n, fun | n => n⟩
theorem bldStrLays : Go.Proofs.Lays.n169 Try.prog bldStrRen := {
  mixed := by kernel_rfl
  f169 := Try.func136.trans (congrArg some (by kernel_rfl))
  t0 := Try.underlying0
  a0 := Try.isAgg0
  z0 := Try.sizeOf0
  v0 := Try.zeroValue0
  t3 := Try.underlying3
  a3 := Try.isAgg3
  z3 := Try.sizeOf3
  v3 := Try.zeroValue3
  t9 := Try.underlying9
  a9 := Try.isAgg9
  z9 := Try.sizeOf9
  v9 := Try.zeroValue9
  t37 := Try.underlying123
  a37 := Try.isAgg123
  z37 := Try.sizeOf123
  v37 := Try.zeroValue123
  t70 := Try.underlying184
  a70 := Try.isAgg184
  z70 := Try.sizeOf184
  v70 := Try.zeroValue184
  t72 := Try.underlying186
  a72 := Try.isAgg186
  z72 := Try.sizeOf186
  v72 := Try.zeroValue186
  t127 := Try.underlying223
  a127 := Try.isAgg223
  z127 := Try.sizeOf223
  v127 := Try.zeroValue223 }
theorem bldStrExtra : Builder.Extra Try.prog bldStrRen := {
  sizeBuilder := by kernel_rfl
  liesBuilder := by kernel_rfl
  t5 := Try.underlying5
  a5 := Try.isAgg5
  z5 := Try.sizeOf5
  v5 := Try.zeroValue5
  infoByte := by kernel_rfl
  cellsByte := by kernel_rfl
  sizeByte := by kernel_rfl
  neB5 := by decide }

theorem bld_string (B b : Nat) (l : List UInt8) (w : World) (h : Lib.IsBuilder 186 5 B b (Lib.byteCells l) w) (hBw : B ≤ w.heap.size) :
    Calls Try.prog 136 #[.pointer (some ⟨b, 0, none⟩)] w fun e w' => e = .returned (.string ⟨l.toArray⟩) ∧ Below B w w' := Any.Builder_String_any bldStrLays bldStrExtra B b l w h hBw

set_option maxHeartbeats 1000000 in
set_option maxRecDepth 100000 in
theorem bld_check_used (b : Nat) (w : World) (h0 : w.cell? ⟨b, 0, none⟩ = some (.pointer (some ⟨b, 0, none⟩))) :
    Calls Try.prog 162 #[.pointer (some ⟨b, 0, none⟩)] w fun e w' => e = .returned (.tuple #[]) ∧ w' = w := by
  obtain ⟨j, hj, _⟩ := Option.map_eq_some_iff.1 bldStrExtra.sizeBuilder
  go_enter Try.func162, Try.ntmps162
  go_wp2
  rw [Lib.run_neq_ptr_same w _ Try.underlying184 hj]
  go_wp2
  go_end0
  exact ⟨rfl, rfl⟩

set_option maxHeartbeats 1000000 in
set_option maxRecDepth 100000 in
theorem bld_check_fresh (b : Nat) (w : World) (h0 : w.cell? ⟨b, 0, none⟩ = some (.pointer none)) (hsh : w.shape? b = some (186, 2)) (hfz : w.frozen? ⟨b, 0, none⟩ = false) :
    Calls Try.prog 162 #[.pointer (some ⟨b, 0, none⟩)] w fun e w' => e = .returned (.tuple #[]) ∧ w' = w.setCell ⟨b, 0, none⟩ (.pointer (some ⟨b, 0, none⟩)) := by
  obtain ⟨j, hj, hjs⟩ := Option.map_eq_some_iff.1 bldStrExtra.sizeBuilder
  go_enter Try.func162, Try.ntmps162
  go_wp2
  rw [Lib.run_to_unsafe w ⟨b, 0, none⟩ Try.underlying184 Try.underlying233 hj (by rw [hjs]; decide) hsh (Nat.zero_lt_succ 1)]
  simp only [Result.andThen]
  rw [Oper.upon_value]
  go_wp2
  rw [run_callFunc_extern Try.func175 (by kernel_rfl) (by kernel_rfl) (by kernel_rfl) (e := Extern.AbiNoEscape.same) (by kernel_rfl)]
  rw [Lib.run_noEscape]
  simp only [Result.andThen]
  rw [Oper.upon_value]
  go_wp2
  rw [Lib.run_from_unsafe w ⟨b, 0, none⟩ Try.underlying233 Try.underlying184 hj hsh bldStrExtra.liesBuilder]
  simp only [Result.andThen]
  rw [Oper.upon_value]
  go_wp2
  go_end0
  exact ⟨rfl, rfl⟩

theorem bld_check (B b : Nat) (bs : List Value) (w : World) (h : Lib.IsBuilder 186 5 B b bs w) :
    Calls Try.prog 162 #[.pointer (some ⟨b, 0, none⟩)] w fun e w' => e = .returned (.tuple #[]) ∧ (Lib.BuilderAt 186 5 B b (.pointer (some ⟨b, 0, none⟩)) bs w' ∧ Below B w w') := by
  rcases h with h | h
  · refine (bld_check_fresh b w h.cell0 h.shape h.frozen0).mono ?_
    rintro e w' ⟨rfl, rfl⟩
    exact ⟨rfl, h.used _, (Below.refl B w).setCell (p := ⟨b, 0, none⟩) h.1 _⟩
  · refine (bld_check_used b w h.cell0).mono ?_
    rintro e w' ⟨rfl, rfl⟩
    exact ⟨rfl, h, Below.refl B _⟩

set_option maxHeartbeats 2000000 in
set_option maxRecDepth 100000 in
theorem bld_write (B b : Nat) (bs : List Value) (s : ByteArray) (w : World) (h : Lib.IsBuilder 186 5 B b bs w) (hlen : bs.length + s.size ≤ 140737488355328) (hBw : B ≤ w.heap.size) :
    Calls Try.prog 133 #[.pointer (some ⟨b, 0, none⟩), .string s] w fun e w' => e = .returned (.tuple #[.int .i64 s.size, .nilIface]) ∧ (Lib.BuilderAt 186 5 B b (.pointer (some ⟨b, 0, none⟩)) (bs ++ Lib.strCells s) w' ∧ Below B w w') := by
  obtain ⟨i0, hi, hz0, hz1, hz2⟩ := info_parts bldStrExtra.infoByte
  go_enter Try.func133, Try.ntmps133
  go_wp2_with (go_at_call 162; refine (bld_check B b bs _ h).mono ?_)
  rintro e w1 ⟨rfl, h1, hb1⟩
  obtain ⟨hB, v, hbk, hown, hne⟩ := h1
  have c0 : w1.cell? ⟨b, 0, none⟩ = some (.pointer (some ⟨b, 0, none⟩)) := by rw [Lib.cell_of_heap hbk]; rfl
  have c1 : w1.cell? ⟨b, 1, none⟩ = some v := by rw [Lib.cell_of_heap hbk]; rfl
  go_wp2_with (at_builtin; refine Lib.wpList_append_own_string _ rfl _ _ 123 9 rfl B 5 i0 Try.underlying123 Try.underlying9 hi hz0 hz1 hz2 _ _ _ rfl hown s rfl ?c3 ?c4 ?c5 ?_)
  case c3 => unfold maxLen; omega
  case c4 => omega
  case c5 => have := hb1.size; omega
  intro v' w2 hown' hgrow _
  have hlt : b < w1.heap.size := by
    rcases Nat.lt_or_ge b w1.heap.size with h' | h'
    · exact h'
    · simp [Array.getElem?_eq_none h'] at hbk
  have hb2 : w2.heap[b]? = some (.cells #[.pointer (some ⟨b, 0, none⟩), v] 186 (0, 0)) := by
    rw [hgrow.block b hlt (fun e => hne e.symm)]
    exact hbk
  have d0 : w2.cell? ⟨b, 0, none⟩ = some (.pointer (some ⟨b, 0, none⟩)) := by rw [Lib.cell_of_heap hb2]; rfl
  have d1 : w2.cell? ⟨b, 1, none⟩ = some v := by rw [Lib.cell_of_heap hb2]; rfl
  have f1 : w2.frozen? ⟨b, 1, none⟩ = false := Lib.frozen_of_heap hb2 1
  obtain ⟨ao, n', cap, rfl⟩ : ∃ ao n' cap, v' = .slice ao n' cap := by
    rcases hown'.2 with ⟨hv, _⟩ | ⟨g, cap, cur, hv, _⟩
    · exact ⟨_, _, _, hv⟩
    · exact ⟨_, _, _, hv⟩
  go_wp2
  go_ret2
  refine ⟨rfl, ?_, ?_⟩
  · exact Lib.BuilderAt.put (T := 186) (e := 5) hB hb2 (bs' := bs ++ Lib.strCells s) (by simpa [Lib.strCells_length] using hown') bldStrExtra.neB5
  · exact (hb1.grown hgrow (by have := hb1.size; omega) (fun k hk => (hown.lt k hk).1)).setCell (p := ⟨b, 1, none⟩) hB _
end Go.Proofs.Ytefmlbckbhlgdaa

/- Rlp: items, how they are written and read: plain laws. Rlp: reading: plain laws. Rlp: the reference's reading: plain laws. -/
import Derived.Test.YthipnbiilobjeaaLaw
namespace Go.Proofs.Ythipnbiilobjeaa
set_option maxRecDepth 100000

/-- An item: whether it is a list, its bytes, its kids. -/
inductive It where
  | mk (l : Bool) (b : List UInt8) (k : List It)

mutual
/-- How many items there are in one. -/
def It.size : It → Nat
  | .mk _ _ ks => 1 + sizes ks
def sizes : List It → Nat
  | [] => 0
  | k :: ks => k.size + sizes ks
end

mutual
/-- Each one in it is bytes or a list. -/
def It.pure : It → Prop
  | .mk l b ks => (l = true → b = []) ∧ (l = false → ks = []) ∧ pures ks
def pures : List It → Prop
  | [] => True
  | k :: ks => k.pure ∧ pures ks
end

mutual
/-- How deep lists go. -/
def It.depth : It → Nat
  | .mk l _ ks => depths ks + (if l = true then 1 else 0)
def depths : List It → Nat
  | [] => 0
  | k :: ks => max k.depth (depths ks)
end

/-- A number's bytes, the highest first. -/
def dig (n : Nat) : List UInt8 := if n = 0 then [] else dig (n / 256) ++ [UInt8.ofNat n]
termination_by n
decreasing_by omega

theorem dig_zero : dig 0 = [] := by rw [dig]; rfl
theorem dig_pos {n : Nat} (h : 0 < n) : dig n = dig (n / 256) ++ [UInt8.ofNat n] := by rw [dig, if_neg (by omega)]
theorem dig_one {n : Nat} (h : 0 < n) (h' : n < 256) : dig n = [UInt8.ofNat n] := by
  rw [dig_pos h, show n / 256 = 0 by omega, dig_zero]; rfl
theorem dig_two {n : Nat} (h : 256 ≤ n) (h' : n < 65536) : dig n = [UInt8.ofNat (n / 256), UInt8.ofNat n] := by
  rw [dig_pos (by omega), dig_one (by omega) (by omega)]; rfl

/-- What stands ahead of so many bytes. -/
def headL (fr n : Nat) : List UInt8 := if n ≤ 55 then [UInt8.ofNat (fr + n)] else UInt8.ofNat (fr + 55 + (dig n).length) :: dig n

theorem headL_short {fr n : Nat} (h : n ≤ 55) : headL fr n = [UInt8.ofNat (fr + n)] := by rw [headL, if_pos h]
theorem headL_one {fr n : Nat} (h : 55 < n) (h' : n < 256) : headL fr n = [UInt8.ofNat (fr + 56), UInt8.ofNat n] := by
  rw [headL, if_neg (by omega), dig_one (by omega) h']; rfl
theorem headL_two {fr n : Nat} (h : 256 ≤ n) (h' : n < 65536) : headL fr n = [UInt8.ofNat (fr + 57), UInt8.ofNat (n / 256), UInt8.ofNat n] := by
  rw [headL, if_neg (by omega), dig_two h h']; rfl
theorem headL_length {fr n : Nat} (h : n < 65536) : (headL fr n).length = if n ≤ 55 then 1 else if n < 256 then 2 else 3 := by
  split
  · rw [headL_short (by assumption)]; rfl
  · split
    · rw [headL_one (by omega) (by assumption)]; rfl
    · rw [headL_two (by omega) h]; rfl
theorem headL_pos (fr n : Nat) : 1 ≤ (headL fr n).length := by
  unfold headL; split <;> simp

mutual
/-- What an item is written as. -/
def It.write : It → List UInt8
  | .mk l b ks => if l = true then headL 192 (writes ks).length ++ writes ks else if b.length = 1 ∧ (b.getD 0 0).toNat < 128 then b else headL 128 b.length ++ b
def writes : List It → List UInt8
  | [] => []
  | k :: ks => k.write ++ writes ks
end

/-- A head: whether it is a list's, where what it stands ahead of begins, and ends. -/
def cutL : List UInt8 → Option (Bool × Nat × Nat)
  | [] => none
  | c :: s =>
    if c.toNat < 128 then some (false, 0, 1)
    else
      let fr := if 192 ≤ c.toNat then 192 else 128
      let n := c.toNat - fr
      if n ≤ 55 then some (decide (192 ≤ c.toNat), 1, 1 + n)
      else if n = 56 then (match s with | a :: _ => if a.toNat ≤ 55 then none else some (decide (192 ≤ c.toNat), 2, 2 + a.toNat) | [] => none)
      else if n = 57 then (match s with | a :: b :: _ => if a.toNat = 0 then none else some (decide (192 ≤ c.toNat), 3, 3 + (256 * a.toNat + b.toNat)) | _ => none)
      else none

/-- Where a head counts from. -/
def frOf (is : Bool) : Nat := if is = true then 192 else 128

theorem cut_head (is : Bool) (n : Nat) (h : n < 65536) (t : List UInt8) : cutL (headL (frOf is) n ++ t) = some (is, (headL (frOf is) n).length, (headL (frOf is) n).length + n) := by
  have e1 : ∀ m : Nat, m < 256 → (UInt8.ofNat m).toNat = m := fun m hm => by simp; omega
  obtain ⟨F, hF, hF1, hF2, hF3⟩ : ∃ F, frOf is = F ∧ F ≤ 192 ∧ 128 ≤ F ∧ ∀ c, F ≤ c → c ≤ F + 63 → (if 192 ≤ c then 192 else 128) = F ∧ decide (192 ≤ c) = is := by
    cases is
    · exact ⟨128, rfl, by omega, by omega, fun c h1 h2 => ⟨if_neg (by omega), decide_eq_false (by omega)⟩⟩
    · exact ⟨192, rfl, by omega, by omega, fun c h1 h2 => ⟨if_pos (by omega), decide_eq_true (by omega)⟩⟩
  rw [hF]
  by_cases h1 : n ≤ 55
  · obtain ⟨g1, g2⟩ := hF3 (F + n) (by omega) (by omega)
    rw [headL_short h1]
    simp only [cutL, List.cons_append, List.nil_append, List.length_cons, List.length_nil, e1 (F + n) (by omega), g1, g2, if_neg (show ¬ F + n < 128 by omega), Nat.add_sub_cancel_left, if_pos h1]
  · by_cases h2 : n < 256
    · obtain ⟨g1, g2⟩ := hF3 (F + 56) (by omega) (by omega)
      rw [headL_one (by omega) h2]
      simp only [cutL, List.cons_append, List.nil_append, List.length_cons, List.length_nil, e1 (F + 56) (by omega), e1 n h2, g1, g2, if_neg (show ¬ F + 56 < 128 by omega), Nat.add_sub_cancel_left, if_neg (show ¬ 56 ≤ 55 by omega), if_neg h1, if_true]
    · obtain ⟨g1, g2⟩ := hF3 (F + 57) (by omega) (by omega)
      have e2 : (UInt8.ofNat n).toNat = n % 256 := by simp
      have e3 : 256 * (n / 256) + n % 256 = n := by omega
      rw [headL_two (by omega) h]
      simp only [cutL, List.cons_append, List.nil_append, List.length_cons, List.length_nil, e1 (F + 57) (by omega), e1 (n / 256) (by omega), e2, e3, g1, g2, if_neg (show ¬ F + 57 < 128 by omega), Nat.add_sub_cancel_left, if_neg (show ¬ 57 ≤ 55 by omega), if_neg (show ¬ 57 = 56 by omega), if_true, if_neg (show ¬ n / 256 = 0 by omega)]

theorem cut_inv {s : List UInt8} {is : Bool} {fr to : Nat} (h : cutL s = some (is, fr, to)) :
    (fr = 0 ∧ to = 1 ∧ is = false ∧ ∃ c t, s = c :: t ∧ c.toNat < 128) ∨ ∃ n t, n < 65536 ∧ s = headL (frOf is) n ++ t ∧ fr = (headL (frOf is) n).length ∧ to = fr + n := by
  have hc : ∀ c : UInt8, UInt8.ofNat c.toNat = c := fun c => by simp
  match s, h with
  | [], h => simp [cutL] at h
  | c :: s, h =>
    have hlt := c.toNat_lt
    simp only [cutL] at h
    split at h
    · simp at h; exact .inl ⟨h.2.1.symm, h.2.2.symm, h.1, c, s, rfl, by assumption⟩
    · have hf : (if 192 ≤ c.toNat then 192 else 128) = frOf (decide (192 ≤ c.toNat)) := by unfold frOf; simp
      rw [hf] at h
      have hle : frOf (decide (192 ≤ c.toNat)) ≤ c.toNat := by unfold frOf; split <;> simp_all
      obtain ⟨k, hk⟩ := Nat.le.dest hle
      rw [show c.toNat - frOf (decide (192 ≤ c.toNat)) = k by omega] at h
      split at h
      · simp only [Option.some.injEq, Prod.mk.injEq] at h
        obtain ⟨rfl, rfl, rfl⟩ := h
        refine .inr ⟨k, s, by omega, ?_, ?_, ?_⟩
        · rw [headL_short (by omega), hk, hc]; rfl
        · rw [headL_short (by omega)]; rfl
        · rfl
      · split at h
        · match s, h with
          | a :: s, h =>
            have ha := a.toNat_lt
            simp only at h
            split at h
            · simp at h
            · simp only [Option.some.injEq, Prod.mk.injEq] at h
              obtain ⟨rfl, rfl, rfl⟩ := h
              refine .inr ⟨a.toNat, s, by omega, ?_, ?_, rfl⟩
              · rw [headL_one (by omega) (by omega), show frOf (decide (192 ≤ c.toNat)) + 56 = c.toNat by omega, hc, hc]; rfl
              · rw [headL_one (by omega) (by omega)]; rfl
          | [], h => simp at h
        · split at h
          · match s, h with
            | a :: b :: s, h =>
              have ha := a.toNat_lt
              have hb := b.toNat_lt
              simp only at h
              split at h
              · simp at h
              · simp only [Option.some.injEq, Prod.mk.injEq] at h
                obtain ⟨rfl, rfl, rfl⟩ := h
                have q1 : (256 * a.toNat + b.toNat) / 256 = a.toNat := by omega
                have q2 : UInt8.ofNat (256 * a.toNat + b.toNat) = b := by
                  apply UInt8.toNat.inj
                  simp
                refine .inr ⟨256 * a.toNat + b.toNat, s, by omega, ?_, ?_, rfl⟩
                · rw [headL_two (by omega) (by omega), show frOf (decide (192 ≤ c.toNat)) + 57 = c.toNat by omega, hc, q1, hc, q2]; rfl
                · rw [headL_two (by omega) (by omega)]; rfl
            | [a], h => simp at h
            | [], h => simp at h
          · simp at h
end Go.Proofs.Ythipnbiilobjeaa

namespace Go.Proofs.Ythipnbiilobjeaa
set_option maxRecDepth 100000

mutual
/-- The item that stands first, and what stands behind it. -/
def readL : Nat → List UInt8 → Option (It × List UInt8)
  | 0, _ => none
  | f + 1, s =>
    match cutL s with
    | none => none
    | some (is, fr, to) =>
      if s.length < to then none
      else if is = true then (match kidsL f ((s.take to).drop fr) with | none => none | some ks => some (.mk true [] ks, s.drop to))
      else if fr = 1 ∧ to = 2 ∧ (s.getD 1 0).toNat < 128 then none
      else some (.mk false ((s.take to).drop fr) [], s.drop to)
def kidsL : Nat → List UInt8 → Option (List It)
  | _, [] => some []
  | 0, _ :: _ => none
  | f + 1, c :: s =>
    match readL f (c :: s) with
    | none => none
    | some (k, t) => (match kidsL f t with | none => none | some ks => some (k :: ks))
end

theorem write_pos : ∀ x : It, x.pure → 1 ≤ x.write.length
  | .mk l b ks, h => by
    rw [It.write]
    split
    · have := headL_pos 192 (writes ks).length; rw [List.length_append]; omega
    · split
      · omega
      · have := headL_pos 128 b.length; rw [List.length_append]; omega

theorem read_sound : ∀ f : Nat, (∀ s x t, readL f s = some (x, t) → s = x.write ++ t ∧ x.pure) ∧ (∀ s ks, kidsL f s = some ks → s = writes ks ∧ pures ks)
  | 0 => by
    refine ⟨fun s x t h => by simp [readL] at h, fun s ks h => ?_⟩
    cases s with
    | nil => simp [kidsL] at h; subst h; simp [writes, pures]
    | cons c s => simp [kidsL] at h
  | f + 1 => by
    obtain ⟨ih1, ih2⟩ := read_sound f
    refine ⟨fun s x t h => ?_, fun s ks h => ?_⟩
    · rw [readL] at h
      cases hc : cutL s with
      | none => simp [hc] at h
      | some q =>
        obtain ⟨is, fr, to⟩ := q
        simp only [hc] at h
        split at h
        · cases h
        rename_i hto
        rcases cut_inv hc with ⟨rfl, rfl, rfl, c, u, rfl, hlt⟩ | ⟨n, u, hn, rfl, rfl, rfl⟩
        · simp at h
          obtain ⟨rfl, rfl⟩ := h
          simp [It.write, It.pure, pures, hlt]
        · have hl : n ≤ u.length := by rw [List.length_append] at hto; omega
          have e1 : ((headL (frOf is) n ++ u).take ((headL (frOf is) n).length + n)).drop (headL (frOf is) n).length = u.take n := by
            rw [List.take_length_add_append, List.drop_left]
          have e2 : (headL (frOf is) n ++ u).drop ((headL (frOf is) n).length + n) = u.drop n := by
            rw [List.drop_length_add_append]
          rw [e1, e2] at h
          have e3 : (u.take n).length = n := by rw [List.length_take]; omega
          split at h
          · rename_i his
            subst his
            cases hk : kidsL f (u.take n) with
            | none => simp [hk] at h
            | some ks =>
              simp only [hk, Option.some.injEq, Prod.mk.injEq] at h
              obtain ⟨rfl, rfl⟩ := h
              obtain ⟨g1, g2⟩ := ih2 _ _ hk
              refine ⟨?_, by simp [It.pure, g2]⟩
              rw [It.write, if_pos rfl, ← g1, e3, List.append_assoc, List.take_append_drop]
              rfl
          · rename_i his
            have his' : is = false := by simpa using his
            subst his'
            split at h
            · cases h
            rename_i hb
            simp only [Option.some.injEq, Prod.mk.injEq] at h
            obtain ⟨rfl, rfl⟩ := h
            refine ⟨?_, by simp [It.pure, pures]⟩
            rw [It.write, if_neg (by simp), e3]
            by_cases hx : n = 1 ∧ ((u.take n).getD 0 0).toNat < 128
            · exfalso
              obtain ⟨rfl, hx⟩ := hx
              apply hb
              rw [headL_short (by omega)]
              refine ⟨rfl, rfl, ?_⟩
              cases u with
              | nil => simp at hl
              | cons a u => simpa using hx
            · rw [if_neg hx, List.append_assoc, List.take_append_drop]
              rfl
    · cases s with
      | nil => simp [kidsL] at h; subst h; simp [writes, pures]
      | cons c s =>
        rw [kidsL] at h
        cases hr : readL f (c :: s) with
        | none => simp [hr] at h
        | some q =>
          obtain ⟨k, t⟩ := q
          simp only [hr] at h
          cases hk : kidsL f t with
          | none => simp [hk] at h
          | some ks' =>
            simp only [hk, Option.some.injEq] at h
            subst h
            obtain ⟨g1, g2⟩ := ih1 _ _ _ hr
            obtain ⟨g3, g4⟩ := ih2 _ _ hk
            exact ⟨by rw [writes, g1, ← g3], by simp [pures, g2, g4]⟩

theorem read_write : ∀ f : Nat, (∀ (x : It) t, x.pure → x.write.length < 65536 → 2 * x.write.length ≤ f + 1 → readL f (x.write ++ t) = some (x, t)) ∧
    (∀ ks, pures ks → (writes ks).length < 65536 → 2 * (writes ks).length ≤ f → kidsL f (writes ks) = some ks)
  | 0 => by
    refine ⟨fun x t hp h1 h2 => ?_, fun ks hp h1 h2 => ?_⟩
    · have := write_pos x hp; omega
    · cases ks with
      | nil => simp [writes, kidsL]
      | cons k ks =>
        have := write_pos k hp.1
        rw [writes, List.length_append] at h2
        omega
  | f + 1 => by
    obtain ⟨ih1, ih2⟩ := read_write f
    refine ⟨fun x t hp h1 h2 => ?_, fun ks hp h1 h2 => ?_⟩
    · obtain ⟨l, b, ks⟩ := x
      obtain ⟨p1, p2, p3⟩ := hp
      cases l with
      | true =>
        obtain rfl := p1 rfl
        rw [It.write, if_pos rfl] at h1 h2 ⊢
        rw [List.length_append] at h1 h2
        have hh := headL_pos 192 (writes ks).length
        rw [readL, List.append_assoc, show headL 192 (writes ks).length = headL (frOf true) (writes ks).length from rfl, cut_head true _ (by omega)]
        simp only
        rw [if_neg (by simp only [List.length_append]; omega), if_pos trivial, List.take_length_add_append, List.drop_left, List.take_left, ih2 ks p3 (by omega) (by omega), List.drop_length_add_append, List.drop_left]
      | false =>
        obtain rfl := p2 rfl
        rw [It.write, if_neg (by simp)] at h1 h2 ⊢
        by_cases hb : b.length = 1 ∧ (b.getD 0 0).toNat < 128
        · rw [if_pos hb] at h1 h2 ⊢
          match b, hb with
          | [c], hb =>
            have hc : c.toNat < 128 := by simpa using hb.2
            simp [readL, cutL, hc]
        · rw [if_neg hb] at h1 h2 ⊢
          rw [List.length_append] at h1 h2
          have hh := headL_pos 128 b.length
          rw [readL, List.append_assoc, show headL 128 b.length = headL (frOf false) b.length from rfl, cut_head false _ (by omega)]
          simp only
          rw [if_neg (by simp only [List.length_append]; omega), if_neg (by simp), List.take_length_add_append, List.drop_left, List.take_left, List.drop_length_add_append, List.drop_left]
          rw [if_neg]
          rintro ⟨q1, q2, q3⟩
          apply hb
          have q4 : b.length = 1 := by omega
          refine ⟨q4, ?_⟩
          rw [headL_short (by omega)] at q3
          match b, q4 with
          | [c], _ => simpa using q3
    · cases ks with
      | nil => simp [writes, kidsL]
      | cons k ks =>
        have hk := write_pos k hp.1
        rw [writes] at h1 h2 ⊢
        rw [List.length_append] at h1 h2
        have h3 := ih1 k (writes ks) hp.1 (by omega) (by omega)
        have h4 := ih2 ks hp.2 (by omega) (by omega)
        cases he : k.write ++ writes ks with
        | nil => have := congrArg List.length he; rw [List.length_append, List.length_nil] at this; omega
        | cons c s =>
          rw [kidsL, ← he, h3]
          simp only
          rw [h4]

/-- No item's bytes are the beginning of another one's. -/
theorem write_free {x y : It} (hx : x.pure) (hy : y.pure) (zx : x.write.length < 65536) (zy : y.write.length < 65536) {t u : List UInt8} (h : x.write ++ t = y.write ++ u) : x = y := by
  have h1 := (read_write (2 * (x.write.length + y.write.length))).1 x t hx zx (by omega)
  have h2 := (read_write (2 * (x.write.length + y.write.length))).1 y u hy zy (by omega)
  rw [h, h2] at h1
  simp at h1
  exact h1.1.symm
end Go.Proofs.Ythipnbiilobjeaa

namespace Go.Proofs.Ythipnbiilobjeaa
set_option maxRecDepth 100000

/-- What bytes tell, the highest first. -/
def valL (l : List UInt8) : Nat := l.foldl (fun n a => 256 * n + a.toNat) 0

/-- How many bytes a head has, and how many stand behind it. -/
def rsizeL : List UInt8 → Option (Nat × Nat)
  | [] => none
  | c :: s =>
    let c := if 192 ≤ c.toNat then c.toNat - 64 else c.toNat
    if c < 128 then some (0, 1)
    else if c ≤ 183 then some (1, c - 128)
    else if 3 < c - 183 ∨ s.length < c - 183 then none
    else some (1 + (c - 183), valL (s.take (c - 183)))

mutual
def rreadL : Nat → List UInt8 → Option (It × Nat)
  | 0, _ => none
  | f + 1, s =>
    match rsizeL s with
    | none => none
    | some (fr, n) =>
      if s.length < fr + n then none
      else if (s.getD 0 0).toNat < 192 then some (.mk false ((s.take (fr + n)).drop fr) [], fr + n)
      else (match rkidsL f ((s.take (fr + n)).drop fr) with | none => none | some ks => some (.mk true [] ks, fr + n))
def rkidsL : Nat → List UInt8 → Option (List It)
  | _, [] => some []
  | 0, _ :: _ => none
  | f + 1, c :: s =>
    match rreadL f (c :: s) with
    | none => none
    | some (k, m) => (match rkidsL f ((c :: s).drop m) with | none => none | some ks => some (k :: ks))
end

theorem rread_pure : ∀ f : Nat, (∀ s x n, rreadL f s = some (x, n) → x.pure) ∧ (∀ s ks, rkidsL f s = some ks → pures ks)
  | 0 => by
    refine ⟨fun s x n h => by simp [rreadL] at h, fun s ks h => ?_⟩
    cases s with
    | nil => simp [rkidsL] at h; subst h; simp [pures]
    | cons c s => simp [rkidsL] at h
  | f + 1 => by
    obtain ⟨ih1, ih2⟩ := rread_pure f
    refine ⟨fun s x n h => ?_, fun s ks h => ?_⟩
    · rw [rreadL] at h
      cases hc : rsizeL s with
      | none => simp [hc] at h
      | some q =>
        obtain ⟨fr, m⟩ := q
        simp only [hc] at h
        split at h
        · cases h
        split at h
        · simp only [Option.some.injEq, Prod.mk.injEq] at h
          obtain ⟨rfl, rfl⟩ := h
          simp [It.pure, pures]
        · cases hk : rkidsL f ((s.take (fr + m)).drop fr) with
          | none => simp [hk] at h
          | some ks =>
            simp only [hk, Option.some.injEq, Prod.mk.injEq] at h
            obtain ⟨rfl, rfl⟩ := h
            simp [It.pure, ih2 _ _ hk]
    · cases s with
      | nil => simp [rkidsL] at h; subst h; simp [pures]
      | cons c s =>
        rw [rkidsL] at h
        cases hr : rreadL f (c :: s) with
        | none => simp [hr] at h
        | some q =>
          obtain ⟨k, m⟩ := q
          simp only [hr] at h
          cases hk : rkidsL f ((c :: s).drop m) with
          | none => simp [hk] at h
          | some ks' =>
            simp only [hk, Option.some.injEq] at h
            subst h
            simp [pures, ih1 _ _ _ hr, ih2 _ _ hk]

theorem rsize_head (is : Bool) (n : Nat) (h : n < 65536) (t : List UInt8) : rsizeL (headL (frOf is) n ++ t) = some ((headL (frOf is) n).length, n) ∧ (((headL (frOf is) n ++ t).getD 0 0).toNat < 192 ↔ is = false) := by
  have e1 : ∀ m : Nat, m < 256 → (UInt8.ofNat m).toNat = m := fun m hm => by simp; omega
  obtain ⟨F, hF, hF1, hF2, hF3⟩ : ∃ F, frOf is = F ∧ F ≤ 192 ∧ 128 ≤ F ∧ ∀ c, F ≤ c → c ≤ F + 63 → (if 192 ≤ c then c - 64 else c) = 128 + (c - F) ∧ (c < 192 ↔ is = false) := by
    cases is
    · exact ⟨128, rfl, by omega, by omega, fun c h1 h2 => ⟨by rw [if_neg (by omega)]; omega, by simp; omega⟩⟩
    · exact ⟨192, rfl, by omega, by omega, fun c h1 h2 => ⟨by rw [if_pos (by omega)]; omega, by simp; omega⟩⟩
  rw [hF]
  by_cases h1 : n ≤ 55
  · obtain ⟨g1, g2⟩ := hF3 (F + n) (by omega) (by omega)
    rw [headL_short h1]
    simp only [rsizeL, List.cons_append, List.nil_append, List.length_cons, List.length_nil, e1 (F + n) (by omega), g1, Nat.add_sub_cancel_left, if_neg (show ¬ 128 + n < 128 by omega), if_pos (show 128 + n ≤ 183 by omega), List.getD_cons_zero]
    exact ⟨trivial, g2⟩
  · by_cases h2 : n < 256
    · obtain ⟨g1, g2⟩ := hF3 (F + 56) (by omega) (by omega)
      rw [headL_one (by omega) h2]
      have hk : 128 + 56 - 183 = 1 := rfl
      simp only [rsizeL, List.cons_append, List.nil_append, List.length_cons, List.length_nil, e1 (F + 56) (by omega), g1, Nat.add_sub_cancel_left, if_neg (show ¬ 128 + 56 < 128 by omega), if_neg (show ¬ 128 + 56 ≤ 183 by omega), List.getD_cons_zero, hk, List.take_succ_cons, List.take_zero,
        if_neg (show ¬ (3 < 1 ∨ t.length + 1 < 1) by omega), valL, List.foldl_cons, List.foldl_nil, e1 n h2]
      exact ⟨by simp, g2⟩
    · obtain ⟨g1, g2⟩ := hF3 (F + 57) (by omega) (by omega)
      have e2 : (UInt8.ofNat n).toNat = n % 256 := by simp
      rw [headL_two (by omega) h]
      have hk : 128 + 57 - 183 = 2 := rfl
      simp only [rsizeL, List.cons_append, List.nil_append, List.length_cons, List.length_nil, e1 (F + 57) (by omega), g1, Nat.add_sub_cancel_left, if_neg (show ¬ 128 + 57 < 128 by omega), if_neg (show ¬ 128 + 57 ≤ 183 by omega), List.getD_cons_zero, hk, List.take_succ_cons, List.take_zero,
        if_neg (show ¬ (3 < 2 ∨ t.length + 1 + 1 < 2) by omega), valL, List.foldl_cons, List.foldl_nil, e1 (n / 256) (by omega), e2]
      refine ⟨?_, g2⟩
      rw [show 256 * (256 * 0 + n / 256) + n % 256 = n by omega]

theorem rread_write : ∀ f : Nat, (∀ (x : It) t, x.pure → x.write.length < 65536 → 2 * x.write.length ≤ f + 1 → rreadL f (x.write ++ t) = some (x, x.write.length)) ∧
    (∀ ks, pures ks → (writes ks).length < 65536 → 2 * (writes ks).length ≤ f → rkidsL f (writes ks) = some ks)
  | 0 => by
    refine ⟨fun x t hp h1 h2 => ?_, fun ks hp h1 h2 => ?_⟩
    · have := write_pos x hp; omega
    · cases ks with
      | nil => simp [writes, rkidsL]
      | cons k ks =>
        have := write_pos k hp.1
        rw [writes, List.length_append] at h2
        omega
  | f + 1 => by
    obtain ⟨ih1, ih2⟩ := rread_write f
    refine ⟨fun x t hp h1 h2 => ?_, fun ks hp h1 h2 => ?_⟩
    · obtain ⟨l, b, ks⟩ := x
      obtain ⟨p1, p2, p3⟩ := hp
      cases l with
      | true =>
        obtain rfl := p1 rfl
        rw [It.write, if_pos rfl] at h1 h2 ⊢
        rw [List.length_append] at h1 h2
        have hh := headL_pos 192 (writes ks).length
        obtain ⟨g1, g2⟩ := rsize_head true (writes ks).length (by omega) (writes ks ++ t)
        rw [rreadL, List.append_assoc, show headL 192 (writes ks).length = headL (frOf true) (writes ks).length from rfl, g1]
        simp only
        rw [if_neg (by simp only [List.length_append]; omega), if_neg (fun e => by simpa using g2.1 e), List.take_length_add_append, List.drop_left, List.take_left, ih2 ks p3 (by omega) (by omega), List.length_append]
      | false =>
        obtain rfl := p2 rfl
        rw [It.write, if_neg (by simp)] at h1 h2 ⊢
        by_cases hb : b.length = 1 ∧ (b.getD 0 0).toNat < 128
        · rw [if_pos hb] at h1 h2 ⊢
          match b, hb with
          | [c], hb =>
            have hc : c.toNat < 128 := by simpa using hb.2
            simp [rreadL, rsizeL, if_neg (show ¬ 192 ≤ c.toNat by omega), hc, show c.toNat < 192 by omega]
        · rw [if_neg hb] at h1 h2 ⊢
          rw [List.length_append] at h1 h2
          have hh := headL_pos 128 b.length
          obtain ⟨g1, g2⟩ := rsize_head false b.length (by omega) (b ++ t)
          rw [rreadL, List.append_assoc, show headL 128 b.length = headL (frOf false) b.length from rfl, g1]
          simp only
          rw [if_neg (by simp only [List.length_append]; omega), if_pos (g2.2 rfl), List.take_length_add_append, List.drop_left, List.take_left, List.length_append]
    · cases ks with
      | nil => simp [writes, rkidsL]
      | cons k ks =>
        have hk := write_pos k hp.1
        rw [writes] at h1 h2 ⊢
        rw [List.length_append] at h1 h2
        have h3 := ih1 k (writes ks) hp.1 (by omega) (by omega)
        have h4 := ih2 ks hp.2 (by omega) (by omega)
        cases he : k.write ++ writes ks with
        | nil => have := congrArg List.length he; rw [List.length_append, List.length_nil] at this; omega
        | cons c s =>
          rw [rkidsL, ← he, h3]
          simp only
          rw [List.drop_left, h4]

/-- Both readings take the same bytes for the same item. -/
theorem reads_same (s : List UInt8) (h : s.length ≤ 4100) (f g : Nat) (hf : 2 * s.length ≤ f + 1) (hg : 2 * s.length ≤ g + 1) (x : It) :
    readL f s = some (x, []) ↔ rreadL g s = some (x, s.length) ∧ x.write = s := by
  constructor
  · intro hr
    obtain ⟨e, hp⟩ := (read_sound f).1 _ _ _ hr
    rw [List.append_nil] at e
    subst e
    have := (rread_write g).1 x [] hp (by omega) (by omega)
    rw [List.append_nil] at this
    exact ⟨this, rfl⟩
  · rintro ⟨hr, rfl⟩
    have hp := (rread_pure g).1 _ _ _ hr
    have := (read_write f).1 x [] hp (by omega) (by omega)
    rwa [List.append_nil] at this
end Go.Proofs.Ythipnbiilobjeaa

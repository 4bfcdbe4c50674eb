/- Rlp: reading: plain laws. -/
import Derived.Test.YtdeboidelgnffaaRlpP
namespace Go.Proofs.Ytdeboidelgnffaa

mutual
/-- The item that stands first, and what stands behind it. -/
def readL : Nat → List UInt8 → Option (It × List UInt8)
  | 0, _ => none
  | f + 1, s =>
    match cutL s with
    | none => none
    | some (is, fr, to) =>
      if s.length < to then none
      else if is = true then (match kidsL f ((s.take to).drop fr) with | none => none | some ks => some (.mk true [] ks, s.drop to))
      else if fr = 1 ∧ to = 2 ∧ (s.getD 1 0).toNat < 128 then none
      else some (.mk false ((s.take to).drop fr) [], s.drop to)
def kidsL : Nat → List UInt8 → Option (List It)
  | _, [] => some []
  | 0, _ :: _ => none
  | f + 1, c :: s =>
    match readL f (c :: s) with
    | none => none
    | some (k, t) => (match kidsL f t with | none => none | some ks => some (k :: ks))
end

theorem write_pos : ∀ x : It, x.pure → 1 ≤ x.write.length
  | .mk l b ks, h => by
    rw [It.write]
    split
    · have := headL_pos 192 (writes ks).length; rw [List.length_append]; omega
    · split
      · omega
      · have := headL_pos 128 b.length; rw [List.length_append]; omega

theorem read_sound : ∀ f : Nat, (∀ s x t, readL f s = some (x, t) → s = x.write ++ t ∧ x.pure) ∧ (∀ s ks, kidsL f s = some ks → s = writes ks ∧ pures ks)
  | 0 => by
    refine ⟨fun s x t h => by simp [readL] at h, fun s ks h => ?_⟩
    cases s with
    | nil => simp [kidsL] at h; subst h; simp [writes, pures]
    | cons c s => simp [kidsL] at h
  | f + 1 => by
    obtain ⟨ih1, ih2⟩ := read_sound f
    refine ⟨fun s x t h => ?_, fun s ks h => ?_⟩
    · rw [readL] at h
      cases hc : cutL s with
      | none => simp [hc] at h
      | some q =>
        obtain ⟨is, fr, to⟩ := q
        simp only [hc] at h
        split at h
        · cases h
        rename_i hto
        rcases cut_inv hc with ⟨rfl, rfl, rfl, c, u, rfl, hlt⟩ | ⟨n, u, hn, rfl, rfl, rfl⟩
        · simp at h
          obtain ⟨rfl, rfl⟩ := h
          simp [It.write, It.pure, pures, hlt]
        · have hl : n ≤ u.length := by rw [List.length_append] at hto; omega
          have e1 : ((headL (frOf is) n ++ u).take ((headL (frOf is) n).length + n)).drop (headL (frOf is) n).length = u.take n := by
            rw [List.take_length_add_append, List.drop_left]
          have e2 : (headL (frOf is) n ++ u).drop ((headL (frOf is) n).length + n) = u.drop n := by
            rw [List.drop_length_add_append]
          rw [e1, e2] at h
          have e3 : (u.take n).length = n := by rw [List.length_take]; omega
          split at h
          · rename_i his
            subst his
            cases hk : kidsL f (u.take n) with
            | none => simp [hk] at h
            | some ks =>
              simp only [hk, Option.some.injEq, Prod.mk.injEq] at h
              obtain ⟨rfl, rfl⟩ := h
              obtain ⟨g1, g2⟩ := ih2 _ _ hk
              refine ⟨?_, by simp [It.pure, g2]⟩
              rw [It.write, if_pos rfl, ← g1, e3, List.append_assoc, List.take_append_drop]
              rfl
          · rename_i his
            have his' : is = false := by simpa using his
            subst his'
            split at h
            · cases h
            rename_i hb
            simp only [Option.some.injEq, Prod.mk.injEq] at h
            obtain ⟨rfl, rfl⟩ := h
            refine ⟨?_, by simp [It.pure, pures]⟩
            rw [It.write, if_neg (by simp), e3]
            by_cases hx : n = 1 ∧ ((u.take n).getD 0 0).toNat < 128
            · exfalso
              obtain ⟨rfl, hx⟩ := hx
              apply hb
              rw [headL_short (by omega)]
              refine ⟨rfl, rfl, ?_⟩
              cases u with
              | nil => simp at hl
              | cons a u => simpa using hx
            · rw [if_neg hx, List.append_assoc, List.take_append_drop]
              rfl
    · cases s with
      | nil => simp [kidsL] at h; subst h; simp [writes, pures]
      | cons c s =>
        rw [kidsL] at h
        cases hr : readL f (c :: s) with
        | none => simp [hr] at h
        | some q =>
          obtain ⟨k, t⟩ := q
          simp only [hr] at h
          cases hk : kidsL f t with
          | none => simp [hk] at h
          | some ks' =>
            simp only [hk, Option.some.injEq] at h
            subst h
            obtain ⟨g1, g2⟩ := ih1 _ _ _ hr
            obtain ⟨g3, g4⟩ := ih2 _ _ hk
            exact ⟨by rw [writes, g1, ← g3], by simp [pures, g2, g4]⟩

theorem read_write : ∀ f : Nat, (∀ (x : It) t, x.pure → x.write.length < 65536 → 2 * x.write.length ≤ f + 1 → readL f (x.write ++ t) = some (x, t)) ∧
    (∀ ks, pures ks → (writes ks).length < 65536 → 2 * (writes ks).length ≤ f → kidsL f (writes ks) = some ks)
  | 0 => by
    refine ⟨fun x t hp h1 h2 => ?_, fun ks hp h1 h2 => ?_⟩
    · have := write_pos x hp; omega
    · cases ks with
      | nil => simp [writes, kidsL]
      | cons k ks =>
        have := write_pos k hp.1
        rw [writes, List.length_append] at h2
        omega
  | f + 1 => by
    obtain ⟨ih1, ih2⟩ := read_write f
    refine ⟨fun x t hp h1 h2 => ?_, fun ks hp h1 h2 => ?_⟩
    · obtain ⟨l, b, ks⟩ := x
      obtain ⟨p1, p2, p3⟩ := hp
      cases l with
      | true =>
        obtain rfl := p1 rfl
        rw [It.write, if_pos rfl] at h1 h2 ⊢
        rw [List.length_append] at h1 h2
        have hh := headL_pos 192 (writes ks).length
        rw [readL, List.append_assoc, show headL 192 (writes ks).length = headL (frOf true) (writes ks).length from rfl, cut_head true _ (by omega)]
        simp only
        rw [if_neg (by simp only [List.length_append]; omega), if_pos trivial, List.take_length_add_append, List.drop_left, List.take_left, ih2 ks p3 (by omega) (by omega), List.drop_length_add_append, List.drop_left]
      | false =>
        obtain rfl := p2 rfl
        rw [It.write, if_neg (by simp)] at h1 h2 ⊢
        by_cases hb : b.length = 1 ∧ (b.getD 0 0).toNat < 128
        · rw [if_pos hb] at h1 h2 ⊢
          match b, hb with
          | [c], hb =>
            have hc : c.toNat < 128 := by simpa using hb.2
            simp [readL, cutL, hc]
        · rw [if_neg hb] at h1 h2 ⊢
          rw [List.length_append] at h1 h2
          have hh := headL_pos 128 b.length
          rw [readL, List.append_assoc, show headL 128 b.length = headL (frOf false) b.length from rfl, cut_head false _ (by omega)]
          simp only
          rw [if_neg (by simp only [List.length_append]; omega), if_neg (by simp), List.take_length_add_append, List.drop_left, List.take_left, List.drop_length_add_append, List.drop_left]
          rw [if_neg]
          rintro ⟨q1, q2, q3⟩
          apply hb
          have q4 : b.length = 1 := by omega
          refine ⟨q4, ?_⟩
          rw [headL_short (by omega)] at q3
          match b, q4 with
          | [c], _ => simpa using q3
    · cases ks with
      | nil => simp [writes, kidsL]
      | cons k ks =>
        have hk := write_pos k hp.1
        rw [writes] at h1 h2 ⊢
        rw [List.length_append] at h1 h2
        have h3 := ih1 k (writes ks) hp.1 (by omega) (by omega)
        have h4 := ih2 ks hp.2 (by omega) (by omega)
        cases he : k.write ++ writes ks with
        | nil => have := congrArg List.length he; rw [List.length_append, List.length_nil] at this; omega
        | cons c s =>
          rw [kidsL, ← he, h3]
          simp only
          rw [h4]

/-- No item's bytes are the beginning of another one's. -/
theorem write_free {x y : It} (hx : x.pure) (hy : y.pure) (zx : x.write.length < 65536) (zy : y.write.length < 65536) {t u : List UInt8} (h : x.write ++ t = y.write ++ u) : x = y := by
  have h1 := (read_write (2 * (x.write.length + y.write.length))).1 x t hx zx (by omega)
  have h2 := (read_write (2 * (x.write.length + y.write.length))).1 y u hy zy (by omega)
  rw [h, h2] at h1
  simp at h1
  exact h1.1.symm
end Go.Proofs.Ytdeboidelgnffaa

/- Rlp: the reference's reading: plain laws. -/
import Derived.Test.YtdeboidelgnffaaRlpP2
namespace Go.Proofs.Ytdeboidelgnffaa

/-- What bytes tell, the highest first. -/
def valL (l : List UInt8) : Nat := l.foldl (fun n a => 256 * n + a.toNat) 0

/-- How many bytes a head has, and how many stand behind it. -/
def rsizeL : List UInt8 → Option (Nat × Nat)
  | [] => none
  | c :: s =>
    let c := if 192 ≤ c.toNat then c.toNat - 64 else c.toNat
    if c < 128 then some (0, 1)
    else if c ≤ 183 then some (1, c - 128)
    else if 3 < c - 183 ∨ s.length < c - 183 then none
    else some (1 + (c - 183), valL (s.take (c - 183)))

mutual
def rreadL : Nat → List UInt8 → Option (It × Nat)
  | 0, _ => none
  | f + 1, s =>
    match rsizeL s with
    | none => none
    | some (fr, n) =>
      if s.length < fr + n then none
      else if (s.getD 0 0).toNat < 192 then some (.mk false ((s.take (fr + n)).drop fr) [], fr + n)
      else (match rkidsL f ((s.take (fr + n)).drop fr) with | none => none | some ks => some (.mk true [] ks, fr + n))
def rkidsL : Nat → List UInt8 → Option (List It)
  | _, [] => some []
  | 0, _ :: _ => none
  | f + 1, c :: s =>
    match rreadL f (c :: s) with
    | none => none
    | some (k, m) => (match rkidsL f ((c :: s).drop m) with | none => none | some ks => some (k :: ks))
end

theorem rread_pure : ∀ f : Nat, (∀ s x n, rreadL f s = some (x, n) → x.pure) ∧ (∀ s ks, rkidsL f s = some ks → pures ks)
  | 0 => by
    refine ⟨fun s x n h => by simp [rreadL] at h, fun s ks h => ?_⟩
    cases s with
    | nil => simp [rkidsL] at h; subst h; simp [pures]
    | cons c s => simp [rkidsL] at h
  | f + 1 => by
    obtain ⟨ih1, ih2⟩ := rread_pure f
    refine ⟨fun s x n h => ?_, fun s ks h => ?_⟩
    · rw [rreadL] at h
      cases hc : rsizeL s with
      | none => simp [hc] at h
      | some q =>
        obtain ⟨fr, m⟩ := q
        simp only [hc] at h
        split at h
        · cases h
        split at h
        · simp only [Option.some.injEq, Prod.mk.injEq] at h
          obtain ⟨rfl, rfl⟩ := h
          simp [It.pure, pures]
        · cases hk : rkidsL f ((s.take (fr + m)).drop fr) with
          | none => simp [hk] at h
          | some ks =>
            simp only [hk, Option.some.injEq, Prod.mk.injEq] at h
            obtain ⟨rfl, rfl⟩ := h
            simp [It.pure, ih2 _ _ hk]
    · cases s with
      | nil => simp [rkidsL] at h; subst h; simp [pures]
      | cons c s =>
        rw [rkidsL] at h
        cases hr : rreadL f (c :: s) with
        | none => simp [hr] at h
        | some q =>
          obtain ⟨k, m⟩ := q
          simp only [hr] at h
          cases hk : rkidsL f ((c :: s).drop m) with
          | none => simp [hk] at h
          | some ks' =>
            simp only [hk, Option.some.injEq] at h
            subst h
            simp [pures, ih1 _ _ _ hr, ih2 _ _ hk]

theorem rsize_head (is : Bool) (n : Nat) (h : n < 65536) (t : List UInt8) : rsizeL (headL (frOf is) n ++ t) = some ((headL (frOf is) n).length, n) ∧ (((headL (frOf is) n ++ t).getD 0 0).toNat < 192 ↔ is = false) := by
  have e1 : ∀ m : Nat, m < 256 → (UInt8.ofNat m).toNat = m := fun m hm => by simp; omega
  obtain ⟨F, hF, hF1, hF2, hF3⟩ : ∃ F, frOf is = F ∧ F ≤ 192 ∧ 128 ≤ F ∧ ∀ c, F ≤ c → c ≤ F + 63 → (if 192 ≤ c then c - 64 else c) = 128 + (c - F) ∧ (c < 192 ↔ is = false) := by
    cases is
    · exact ⟨128, rfl, by omega, by omega, fun c h1 h2 => ⟨by rw [if_neg (by omega)]; omega, by simp; omega⟩⟩
    · exact ⟨192, rfl, by omega, by omega, fun c h1 h2 => ⟨by rw [if_pos (by omega)]; omega, by simp; omega⟩⟩
  rw [hF]
  by_cases h1 : n ≤ 55
  · obtain ⟨g1, g2⟩ := hF3 (F + n) (by omega) (by omega)
    rw [headL_short h1]
    simp only [rsizeL, List.cons_append, List.nil_append, List.length_cons, List.length_nil, e1 (F + n) (by omega), g1, Nat.add_sub_cancel_left, if_neg (show ¬ 128 + n < 128 by omega), if_pos (show 128 + n ≤ 183 by omega), List.getD_cons_zero]
    exact ⟨trivial, g2⟩
  · by_cases h2 : n < 256
    · obtain ⟨g1, g2⟩ := hF3 (F + 56) (by omega) (by omega)
      rw [headL_one (by omega) h2]
      have hk : 128 + 56 - 183 = 1 := rfl
      simp only [rsizeL, List.cons_append, List.nil_append, List.length_cons, List.length_nil, e1 (F + 56) (by omega), g1, Nat.add_sub_cancel_left, if_neg (show ¬ 128 + 56 < 128 by omega), if_neg (show ¬ 128 + 56 ≤ 183 by omega), List.getD_cons_zero, hk, List.take_succ_cons, List.take_zero,
        if_neg (show ¬ (3 < 1 ∨ t.length + 1 < 1) by omega), valL, List.foldl_cons, List.foldl_nil, e1 n h2]
      exact ⟨by simp, g2⟩
    · obtain ⟨g1, g2⟩ := hF3 (F + 57) (by omega) (by omega)
      have e2 : (UInt8.ofNat n).toNat = n % 256 := by simp
      rw [headL_two (by omega) h]
      have hk : 128 + 57 - 183 = 2 := rfl
      simp only [rsizeL, List.cons_append, List.nil_append, List.length_cons, List.length_nil, e1 (F + 57) (by omega), g1, Nat.add_sub_cancel_left, if_neg (show ¬ 128 + 57 < 128 by omega), if_neg (show ¬ 128 + 57 ≤ 183 by omega), List.getD_cons_zero, hk, List.take_succ_cons, List.take_zero,
        if_neg (show ¬ (3 < 2 ∨ t.length + 1 + 1 < 2) by omega), valL, List.foldl_cons, List.foldl_nil, e1 (n / 256) (by omega), e2]
      refine ⟨?_, g2⟩
      rw [show 256 * (256 * 0 + n / 256) + n % 256 = n by omega]

theorem rread_write : ∀ f : Nat, (∀ (x : It) t, x.pure → x.write.length < 65536 → 2 * x.write.length ≤ f + 1 → rreadL f (x.write ++ t) = some (x, x.write.length)) ∧
    (∀ ks, pures ks → (writes ks).length < 65536 → 2 * (writes ks).length ≤ f → rkidsL f (writes ks) = some ks)
  | 0 => by
    refine ⟨fun x t hp h1 h2 => ?_, fun ks hp h1 h2 => ?_⟩
    · have := write_pos x hp; omega
    · cases ks with
      | nil => simp [writes, rkidsL]
      | cons k ks =>
        have := write_pos k hp.1
        rw [writes, List.length_append] at h2
        omega
  | f + 1 => by
    obtain ⟨ih1, ih2⟩ := rread_write f
    refine ⟨fun x t hp h1 h2 => ?_, fun ks hp h1 h2 => ?_⟩
    · obtain ⟨l, b, ks⟩ := x
      obtain ⟨p1, p2, p3⟩ := hp
      cases l with
      | true =>
        obtain rfl := p1 rfl
        rw [It.write, if_pos rfl] at h1 h2 ⊢
        rw [List.length_append] at h1 h2
        have hh := headL_pos 192 (writes ks).length
        obtain ⟨g1, g2⟩ := rsize_head true (writes ks).length (by omega) (writes ks ++ t)
        rw [rreadL, List.append_assoc, show headL 192 (writes ks).length = headL (frOf true) (writes ks).length from rfl, g1]
        simp only
        rw [if_neg (by simp only [List.length_append]; omega), if_neg (fun e => by simpa using g2.1 e), List.take_length_add_append, List.drop_left, List.take_left, ih2 ks p3 (by omega) (by omega), List.length_append]
      | false =>
        obtain rfl := p2 rfl
        rw [It.write, if_neg (by simp)] at h1 h2 ⊢
        by_cases hb : b.length = 1 ∧ (b.getD 0 0).toNat < 128
        · rw [if_pos hb] at h1 h2 ⊢
          match b, hb with
          | [c], hb =>
            have hc : c.toNat < 128 := by simpa using hb.2
            simp [rreadL, rsizeL, if_neg (show ¬ 192 ≤ c.toNat by omega), hc, show c.toNat < 192 by omega]
        · rw [if_neg hb] at h1 h2 ⊢
          rw [List.length_append] at h1 h2
          have hh := headL_pos 128 b.length
          obtain ⟨g1, g2⟩ := rsize_head false b.length (by omega) (b ++ t)
          rw [rreadL, List.append_assoc, show headL 128 b.length = headL (frOf false) b.length from rfl, g1]
          simp only
          rw [if_neg (by simp only [List.length_append]; omega), if_pos (g2.2 rfl), List.take_length_add_append, List.drop_left, List.take_left, List.length_append]
    · cases ks with
      | nil => simp [writes, rkidsL]
      | cons k ks =>
        have hk := write_pos k hp.1
        rw [writes] at h1 h2 ⊢
        rw [List.length_append] at h1 h2
        have h3 := ih1 k (writes ks) hp.1 (by omega) (by omega)
        have h4 := ih2 ks hp.2 (by omega) (by omega)
        cases he : k.write ++ writes ks with
        | nil => have := congrArg List.length he; rw [List.length_append, List.length_nil] at this; omega
        | cons c s =>
          rw [rkidsL, ← he, h3]
          simp only
          rw [List.drop_left, h4]

/-- Both readings take the same bytes for the same item. -/
theorem reads_same (s : List UInt8) (h : s.length ≤ 4100) (f g : Nat) (hf : 2 * s.length ≤ f + 1) (hg : 2 * s.length ≤ g + 1) (x : It) :
    readL f s = some (x, []) ↔ rreadL g s = some (x, s.length) ∧ x.write = s := by
  constructor
  · intro hr
    obtain ⟨e, hp⟩ := (read_sound f).1 _ _ _ hr
    rw [List.append_nil] at e
    subst e
    have := (rread_write g).1 x [] hp (by omega) (by omega)
    rw [List.append_nil] at this
    exact ⟨this, rfl⟩
  · rintro ⟨hr, rfl⟩
    have hp := (rread_pure g).1 _ _ _ hr
    have := (read_write f).1 x [] hp (by omega) (by omega)
    rwa [List.append_nil] at this
end Go.Proofs.Ytdeboidelgnffaa

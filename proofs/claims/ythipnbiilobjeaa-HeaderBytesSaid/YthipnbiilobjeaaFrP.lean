/- Frame, the plain side: kinds of a form, fields as items and back. -/
import Derived.Test.YthipnbiilobjeaaTr
import Derived.Test.YthipnbiilobjeaaRlpRep
import Derived.Test.YthipnbiilobjeaaRlp15
import Derived.Test.YthipnbiilobjeaaRlp18
namespace Go.Proofs.Ythipnbiilobjeaa
open Go.RowKit

/-- A field: a number, bytes, fields; a kind: its sign, and what it is of. -/
abbrev Fd := Tr (Nat × List UInt8)
abbrev Kd := Tr UInt8

mutual
def Tr.count {α : Type} : Tr α → Nat
  | .mk _ ks => 1 + counts ks
def counts {α : Type} : List (Tr α) → Nat
  | [] => 0
  | k :: ks => k.count + counts ks
end

def leafK (c : UInt8) : Bool := decide (c = 110) || decide (c = 104) || decide (c = 97) || decide (c = 115) || decide (c = 98)
/-- Kinds, as many as stand there, and how many signs they have. -/
def someW (f : List UInt8 → Option (Kd × Nat)) : Nat → List UInt8 → List Kd × Nat
  | 0, _ => ([], 0)
  | m + 1, s => match f s with
    | none => ([], 0)
    | some (k, n) => (k :: (someW f m (s.drop n)).1, n + (someW f m (s.drop n)).2)
/-- The kind that stands first; 'd': how many levels there may be. -/
def oneL : Nat → List UInt8 → Option (Kd × Nat)
  | 0, _ => none
  | _ + 1, [] => none
  | d + 1, c :: t =>
    if leafK c = true then some (.mk c [], 1)
    else if c = 42 then match oneL d t with
      | none => none
      | some (k, n) => if 0 < d then some (.mk 42 [k], n + 1) else none
    else if c = 40 then (if 0 < d ∧ t[(someW (oneL d) (t.length + 1) t).2]? = some 41 then some (.mk 40 (someW (oneL d) (t.length + 1) t).1, (someW (oneL d) (t.length + 1) t).2 + 2) else none)
    else none
def someL (d : Nat) (s : List UInt8) : List Kd × Nat := someW (oneL d) (s.length + 1) s
def kindsL (s : List UInt8) : Option (List Kd) := if s.length ≤ 40 ∧ (someL 5 s).2 = s.length then some (someL 5 s).1 else none

def sizeK (c : UInt8) : Int := if c = 104 then 32 else if c = 97 then 20 else if c = 115 then 65 else -1

mutual
/-- A field as an item by its kind; none: it does not fit. -/
def itemK : Kd → Fd → Option It
  | .mk c ks, .mk (n, b) l =>
    if c = 110 then (if b = [] ∧ l = [] then some (.mk false (dig n) []) else none)
    else if c = 98 then (if n = 0 ∧ l = [] ∧ b.length ≤ 64 then some (.mk false b []) else none)
    else if c = 42 then (if n = 0 ∧ b = [] ∧ l.length ≤ 40 then (starI ks l).map (.mk true []) else none)
    else if c = 40 then (if n = 0 ∧ b = [] then (rowI ks l).map (.mk true []) else none)
    else (if n = 0 ∧ l = [] ∧ (b.length : Int) = sizeK c then some (.mk false b []) else none)
def starI : List Kd → List Fd → Option (List It)
  | [], _ => none
  | k :: _, l => l.mapM (itemK k)
def rowI : List Kd → List Fd → Option (List It)
  | [], [] => some []
  | k :: ks, f :: l => (itemK k f).bind fun x => (rowI ks l).map (x :: ·)
  | [], _ :: _ => none
  | _ :: _, [] => none
end
def itemsT : Kd → List Fd → Option It
  | .mk c ks, l => if c = 42 then (if l.length ≤ 40 then (starI ks l).map (.mk true []) else none) else (rowI ks l).map (.mk true [])

mutual
/-- An item as a field by its kind; none: it is none. -/
def fieldK : Kd → It → Option Fd
  | .mk c ks, .mk l b xs =>
    if c = 110 then (if (It.value (.mk l b xs)).2 = 0 then some (.mk ((It.value (.mk l b xs)).1, []) []) else none)
    else if c = 42 then (if l = true then (starF ks xs).map (.mk (0, [])) else none)
    else if c = 40 then (if l = true then (rowF ks xs).map (.mk (0, [])) else none)
    else if l = true then none else some (.mk (0, b) [])
def starF : List Kd → List It → Option (List Fd)
  | [], _ => none
  | k :: _, l => l.mapM (fieldK k)
def rowF : List Kd → List It → Option (List Fd)
  | [], [] => some []
  | k :: ks, f :: l => (fieldK k f).bind fun x => (rowF ks l).map (x :: ·)
  | [], _ :: _ => none
  | _ :: _, [] => none
end
def fieldsT : Kd → It → Option (List Fd)
  | .mk c ks, .mk l _ xs => if l = true then (if c = 42 then starF ks xs else rowF ks xs) else none

mutual
/-- A kind that can stand in a form. -/
def kOk : Kd → Prop
  | .mk c ks => (c = 42 ∧ ks.length = 1 ∨ c = 40 ∨ leafK c = true ∧ ks = []) ∧ ksOk ks
def ksOk : List Kd → Prop
  | [] => True
  | k :: ks => kOk k ∧ ksOk ks
end
mutual
/-- Numbers are of 64 bits. -/
def fOk : Fd → Prop
  | .mk a l => a.1 < 18446744073709551616 ∧ fsOk l
def fsOk : List Fd → Prop
  | [] => True
  | f :: l => fOk f ∧ fsOk l
end

theorem ksOk_append : ∀ (a b : List Kd), ksOk a → ksOk b → ksOk (a ++ b)
  | [], b, _, h => h
  | x :: a, b, h1, h2 => by rw [ksOk] at h1; rw [List.cons_append, ksOk]; exact ⟨h1.1, ksOk_append a b h1.2 h2⟩
theorem ksOk_get : ∀ {a : List Kd} {i : Nat} {k : Kd}, ksOk a → a[i]? = some k → kOk k
  | [], i, k, _, h => by simp at h
  | x :: a, 0, k, h1, h => by rw [ksOk] at h1; simp at h; subst h; exact h1.1
  | x :: a, i + 1, k, h1, h => by rw [ksOk] at h1; exact ksOk_get h1.2 (by simpa using h)

theorem someW_ok {f : List UInt8 → Option (Kd × Nat)} (hf : ∀ s k n, f s = some (k, n) → kOk k ∧ 1 ≤ n ∧ n ≤ s.length) : ∀ (m : Nat) (s : List UInt8), ksOk (someW f m s).1 ∧ (someW f m s).2 ≤ s.length
  | 0, s => ⟨trivial, Nat.zero_le _⟩
  | m + 1, s => by
    rw [someW]
    cases h : f s with
    | none => exact ⟨trivial, Nat.zero_le _⟩
    | some r =>
      obtain ⟨k, n⟩ := r
      obtain ⟨h1, h2, h3⟩ := hf s k n h
      obtain ⟨h4, h5⟩ := someW_ok hf m (s.drop n)
      rw [List.length_drop] at h5
      exact ⟨⟨h1, h4⟩, by show n + (someW f m (s.drop n)).2 ≤ s.length; omega⟩
theorem oneL_ok : ∀ (d : Nat) (s : List UInt8) (k : Kd) (n : Nat), oneL d s = some (k, n) → kOk k ∧ 1 ≤ n ∧ n ≤ s.length
  | 0, s, k, n, h => by rw [oneL] at h; cases h
  | d + 1, [], k, n, h => by rw [oneL] at h; cases h
  | d + 1, c :: t, k, n, h => by
    rw [oneL] at h
    split at h
    · rename_i hc
      injection h with h
      injection h with h1 h2
      subst h1 h2
      exact ⟨⟨.inr (.inr ⟨hc, rfl⟩), trivial⟩, Nat.le_refl _, by simp⟩
    · split at h
      · split at h
        · cases h
        · rename_i k' n' h'
          split at h
          · injection h with h
            injection h with h1 h2
            subst h1 h2
            obtain ⟨g1, g2, g3⟩ := oneL_ok d t k' n' h'
            exact ⟨⟨.inl ⟨rfl, rfl⟩, g1, trivial⟩, by omega, by rw [List.length_cons]; omega⟩
          · cases h
      · split at h
        · split at h
          · rename_i hh
            injection h with h
            injection h with h1 h2
            subst h1 h2
            obtain ⟨g1, g2⟩ := someW_ok (oneL_ok d) (t.length + 1) t
            have := (List.getElem?_eq_some_iff.1 hh.2).1
            exact ⟨⟨.inr (.inl rfl), g1⟩, by omega, by rw [List.length_cons]; omega⟩
          · cases h
        · cases h
theorem someW_more {f : List UInt8 → Option (Kd × Nat)} (hf : ∀ s k n, f s = some (k, n) → 1 ≤ n ∧ n ≤ s.length) : ∀ (m m' : Nat) (s : List UInt8), s.length < m → s.length < m' → someW f m s = someW f m' s
  | 0, _, s, h, _ => by omega
  | _ + 1, 0, s, _, h => by omega
  | m + 1, m' + 1, s, h1, h2 => by
    rw [someW, someW]
    cases h : f s with
    | none => rfl
    | some r =>
      obtain ⟨k, n⟩ := r
      have h3 := hf s k n h
      have hl : (s.drop n).length = s.length - n := List.length_drop
      simp only [someW_more hf m m' (s.drop n) (by omega) (by omega)]
theorem someL_stop {d : Nat} {s : List UInt8} (h : oneL d s = none) : someL d s = ([], 0) := by
  unfold someL; rw [someW, h]
theorem someL_step {d : Nat} {s : List UInt8} {k : Kd} {n : Nat} (h : oneL d s = some (k, n)) : someL d s = (k :: (someL d (s.drop n)).1, n + (someL d (s.drop n)).2) := by
  have hn := oneL_ok d s k n h
  have hl : (s.drop n).length = s.length - n := List.length_drop
  have := someW_more (fun s k n h => (oneL_ok d s k n h).2) s.length ((s.drop n).length + 1) (s.drop n) (by omega) (by omega)
  unfold someL
  rw [someW, h]
  simp only [this]
theorem someL_ok (d : Nat) (s : List UInt8) : ksOk (someL d s).1 ∧ (someL d s).2 ≤ s.length := someW_ok (oneL_ok d) _ _
theorem kindsL_ok {s : List UInt8} {ks : List Kd} (h : kindsL s = some ks) : ksOk ks := by
  unfold kindsL at h
  split at h
  · injection h with h
    subst h
    exact (someL_ok 5 s).1
  · cases h

theorem dig_len8 {n : Nat} (h : n < 18446744073709551616) : (dig n).length ≤ 8 := by
  have : ∀ (k n : Nat), n < 256 ^ k → (dig n).length ≤ k := by
    intro k
    induction k with
    | zero => intro n h; rw [show n = 0 by simpa using h, dig_zero]; exact Nat.le_refl _
    | succ k ih =>
      intro n h
      rcases Nat.eq_zero_or_pos n with rfl | h0
      · rw [dig_zero]; simp
      · rw [dig_pos h0, List.length_append, List.length_singleton]
        have := ih (n / 256) (by rw [Nat.pow_succ] at h; omega)
        omega
  exact this 8 n (by omega)
theorem value_number {n : Nat} (h : n < 18446744073709551616) : It.value (.mk false (dig n) []) = (n, 0) := by
  have := dig_len8 h
  rw [It.value, if_neg, val_dig]
  simp [canon_dig]
  omega

theorem mapM_back {α β : Type} {f : α → Option β} {g : β → Option α} : ∀ {l : List α} {xs : List β}, (∀ a ∈ l, ∀ b, f a = some b → g b = some a) → l.mapM f = some xs → xs.mapM g = some l
  | [], xs, _, h => by simp at h; subst h; rfl
  | a :: l, xs, hf, h => by
    rw [List.mapM_cons] at h
    simp only [Option.bind_eq_bind, Option.bind_eq_some_iff, Option.pure_def, Option.some.injEq] at h
    obtain ⟨b, h1, ys, h2, rfl⟩ := h
    rw [List.mapM_cons, hf a (by simp) b h1, mapM_back (fun a ha => hf a (by simp [ha])) h2]
    rfl
theorem fsOk_mem : ∀ {l : List Fd}, fsOk l → ∀ f ∈ l, fOk f
  | [], _, f, h => by cases h
  | x :: l, h, f, hf => by
    rw [fsOk] at h
    rcases List.mem_cons.1 hf with rfl | hf
    · exact h.1
    · exact fsOk_mem h.2 f hf

mutual
theorem field_item : ∀ (k : Kd) (f : Fd) (x : It), kOk k → fOk f → itemK k f = some x → fieldK k x = some f
  | .mk c ks, .mk (n, b) l, x, hk, hf, h => by
    rw [itemK] at h
    rw [kOk] at hk
    rw [fOk] at hf
    split at h
    · rename_i hc
      split at h
      · rename_i hb
        injection h with h
        subst h
        rw [fieldK, if_pos hc, value_number hf.1]
        simp [hb]
      · cases h
    · rename_i hc
      split at h
      · rename_i hc2
        split at h
        · rename_i hb
          injection h with h
          subst h
          rw [fieldK, if_neg hc, if_neg (by rw [hc2]; decide), if_neg (by rw [hc2]; decide)]
          simp [hb]
        · cases h
      · split at h
        · rename_i hc2 hc3
          split at h
          · rename_i hb
            obtain ⟨xs, h1, rfl⟩ := Option.map_eq_some_iff.1 h
            rw [fieldK, if_neg hc, if_pos hc3, if_pos rfl, star_back ks l xs hk.2 hf.2 h1]
            simp [hb]
          · cases h
        · split at h
          · rename_i hc2 hc3 hc4
            split at h
            · rename_i hb
              obtain ⟨xs, h1, rfl⟩ := Option.map_eq_some_iff.1 h
              rw [fieldK, if_neg hc, if_neg hc3, if_pos hc4, if_pos rfl, row_back ks l xs hk.2 hf.2 h1]
              simp [hb]
            · cases h
          · rename_i hc2 hc3 hc4
            split at h
            · rename_i hb
              injection h with h
              subst h
              rw [fieldK, if_neg hc, if_neg hc3, if_neg hc4]
              simp [hb]
            · cases h
theorem star_back : ∀ (ks : List Kd) (l : List Fd) (xs : List It), ksOk ks → fsOk l → starI ks l = some xs → starF ks xs = some l
  | [], l, xs, _, _, h => by rw [starI] at h; cases h
  | k :: ks, l, xs, hk, hf, h => by
    rw [starI] at h
    rw [ksOk] at hk
    rw [starF]
    exact mapM_back (fun a ha b hb => field_item k a b hk.1 (fsOk_mem hf a ha) hb) h
theorem row_back : ∀ (ks : List Kd) (l : List Fd) (xs : List It), ksOk ks → fsOk l → rowI ks l = some xs → rowF ks xs = some l
  | [], [], xs, _, _, h => by rw [rowI] at h; injection h with h; subst h; rfl
  | k :: ks, f :: l, xs, hk, hf, h => by
    rw [rowI] at h
    rw [ksOk] at hk
    rw [fsOk] at hf
    obtain ⟨x, h1, h2⟩ := Option.bind_eq_some_iff.1 h
    obtain ⟨ys, h3, rfl⟩ := Option.map_eq_some_iff.1 h2
    rw [rowF, field_item k f x hk.1 hf.1 h1, row_back ks l ys hk.2 hf.2 h3]
    rfl
  | [], _ :: _, xs, _, _, h => by rw [rowI] at h; cases h
  | _ :: _, [], xs, _, _, h => by rw [rowI] at h; cases h
end

/-- What fields are written as, by a form: bytes, and the error's number. -/
def writeF (form : List UInt8) (l : List Fd) : List UInt8 × Int :=
  match kindsL form with
  | none => ([], 1)
  | some ks => if counts l ≤ 1000 then (match itemsT (.mk 40 ks) l with
    | none => ([], 1)
    | some x => x.enc) else ([], 1)
/-- What bytes are read as, by a form. -/
def readF (form s : List UInt8) : List Fd × Int :=
  match kindsL form with
  | none => ([], 1)
  | some ks => if (decL s).2 ≠ 0 then ([], (decL s).2) else (match fieldsT (.mk 40 ks) (decL s).1 with
    | none => ([], 4)
    | some l => if writeF form l = (s, 0) then (l, 0) else ([], 4))

theorem read_written {form a : List UInt8} {l : List Fd} (h : writeF form l = (a, 0)) (hl : fsOk l) : readF form a = (l, 0) := by
  have hw := h
  unfold writeF at h
  unfold readF
  cases hk : kindsL form with
  | none => rw [hk] at h; cases h
  | some ks =>
    rw [hk] at h
    simp only at h ⊢
    split at h
    · cases hx : itemsT (.mk 40 ks) l with
      | none => rw [hx] at h; cases h
      | some x =>
        rw [hx] at h
        simp only at h
        have he : x.enc.2 = 0 := by rw [h]
        have hd := decL_enc he
        obtain ⟨-, -, e1, -, -⟩ := enc_ok he
        have ea : x.write = a := by rw [← e1, h]
        rw [ea] at hd
        rw [hd]
        rw [itemsT, if_neg (by decide)] at hx
        obtain ⟨xs, h1, rfl⟩ := Option.map_eq_some_iff.1 hx
        have hb := row_back ks l xs (kindsL_ok hk) hl h1
        simp only [fieldsT, if_true, if_neg (show ¬ (40 : UInt8) = 42 by decide), hb, hw]
        simp
    · cases h
theorem written_read {form s : List UInt8} {m : List Fd} (h : readF form s = (m, 0)) : writeF form m = (s, 0) := by
  unfold readF at h
  split at h
  · cases h
  · split at h
    · rename_i h1
      injection h with _ h
      exact absurd h h1
    · split at h
      · cases h
      · split at h
        · rename_i h1
          injection h with h _
          subst h
          exact h1
        · cases h
theorem read_bad {form s : List UInt8} (h : (readF form s).2 ≠ 0) : (readF form s).1 = [] := by
  unfold readF at *
  split at h
  · rename_i e
    simp
  · rename_i ks e
    split at h
    · rename_i h1
      simp [h1]
    · rename_i h1
      split at h
      · rename_i h2
        simp [h1]
      · rename_i l h2
        split at h
        · exact absurd rfl h
        · rename_i h3
          simp [h1, h3]
end Go.Proofs.Ythipnbiilobjeaa

/- Frame, the plain side: kinds of a form, fields as items and back. Frame: how kinds and fields lie; how many bytes fields of a kind have; the kind that stands first. Frame: kinds, as many as stand there; the kinds of a form. Frame: are there few fields in a row? -/
import Derived.BigRegion
import Derived.Deep.DeepCutAuto
import Derived.WalkMore
import Derived.Test.YtefmlbckbhlgdaaRa0
import Derived.Test.YtefmlbckbhlgdaaRa1
import Derived.Test.YtefmlbckbhlgdaaRa4
import Derived.Test.YtefmlbckbhlgdaaRa5
namespace Go.Proofs.Ytefmlbckbhlgdaa
open Go.RowKit
/-- A field: a number, bytes, fields; a kind: its sign, and what it is of. -/
abbrev Fd := Tr (Nat × List UInt8)
abbrev Kd := Tr UInt8

mutual
def Tr.count {α : Type} : Tr α → Nat
  | .mk _ ks => 1 + counts ks
def counts {α : Type} : List (Tr α) → Nat
  | [] => 0
  | k :: ks => k.count + counts ks
end
def leafK (c : UInt8) : Bool := decide (c = 110) || decide (c = 104) || decide (c = 97) || decide (c = 115) || decide (c = 98)
/-- Kinds, as many as stand there, and how many signs they have. -/
def someW (f : List UInt8 → Option (Kd × Nat)) : Nat → List UInt8 → List Kd × Nat
  | 0, _ => ([], 0)
  | m + 1, s => match f s with
    | none => ([], 0)
    | some (k, n) => (k :: (someW f m (s.drop n)).1, n + (someW f m (s.drop n)).2)
/-- The kind that stands first; 'd': how many levels there may be. -/
def oneL : Nat → List UInt8 → Option (Kd × Nat)
  | 0, _ => none
  | _ + 1, [] => none
  | d + 1, c :: t =>
    if leafK c = true then some (.mk c [], 1)
    else if c = 42 then match oneL d t with
      | none => none
      | some (k, n) => if 0 < d then some (.mk 42 [k], n + 1) else none
    else if c = 40 then (if 0 < d ∧ t[(someW (oneL d) (t.length + 1) t).2]? = some 41 then some (.mk 40 (someW (oneL d) (t.length + 1) t).1, (someW (oneL d) (t.length + 1) t).2 + 2) else none)
    else none
def someL (d : Nat) (s : List UInt8) : List Kd × Nat := someW (oneL d) (s.length + 1) s
def kindsL (s : List UInt8) : Option (List Kd) := if s.length ≤ 40 ∧ (someL 5 s).2 = s.length then some (someL 5 s).1 else none

def sizeK (c : UInt8) : Int := if c = 104 then 32 else if c = 97 then 20 else if c = 115 then 65 else -1

mutual
/-- A field as an item by its kind; none: it does not fit. -/
def itemK : Kd → Fd → Option It
  | .mk c ks, .mk (n, b) l =>
    if c = 110 then (if b = [] ∧ l = [] then some (.mk false (dig n) []) else none)
    else if c = 98 then (if n = 0 ∧ l = [] ∧ b.length ≤ 64 then some (.mk false b []) else none)
    else if c = 42 then (if n = 0 ∧ b = [] ∧ l.length ≤ 40 then (starI ks l).map (.mk true []) else none)
    else if c = 40 then (if n = 0 ∧ b = [] then (rowI ks l).map (.mk true []) else none)
    else (if n = 0 ∧ l = [] ∧ (b.length : Int) = sizeK c then some (.mk false b []) else none)
def starI : List Kd → List Fd → Option (List It)
  | [], _ => none
  | k :: _, l => l.mapM (itemK k)
def rowI : List Kd → List Fd → Option (List It)
  | [], [] => some []
  | k :: ks, f :: l => (itemK k f).bind fun x => (rowI ks l).map (x :: ·)
  | [], _ :: _ => none
  | _ :: _, [] => none
end
def itemsT : Kd → List Fd → Option It
  | .mk c ks, l => if c = 42 then (if l.length ≤ 40 then (starI ks l).map (.mk true []) else none) else (rowI ks l).map (.mk true [])

mutual
/-- An item as a field by its kind; none: it is none. -/
def fieldK : Kd → It → Option Fd
  | .mk c ks, .mk l b xs =>
    if c = 110 then (if (It.value (.mk l b xs)).2 = 0 then some (.mk ((It.value (.mk l b xs)).1, []) []) else none)
    else if c = 42 then (if l = true then (starF ks xs).map (.mk (0, [])) else none)
    else if c = 40 then (if l = true then (rowF ks xs).map (.mk (0, [])) else none)
    else if l = true then none else some (.mk (0, b) [])
def starF : List Kd → List It → Option (List Fd)
  | [], _ => none
  | k :: _, l => l.mapM (fieldK k)
def rowF : List Kd → List It → Option (List Fd)
  | [], [] => some []
  | k :: ks, f :: l => (fieldK k f).bind fun x => (rowF ks l).map (x :: ·)
  | [], _ :: _ => none
  | _ :: _, [] => none
end
def fieldsT : Kd → It → Option (List Fd)
  | .mk c ks, .mk l _ xs => if l = true then (if c = 42 then starF ks xs else rowF ks xs) else none

mutual
/-- A kind that can stand in a form. -/
def kOk : Kd → Prop
  | .mk c ks => (c = 42 ∧ ks.length = 1 ∨ c = 40 ∨ leafK c = true ∧ ks = []) ∧ ksOk ks
def ksOk : List Kd → Prop
  | [] => True
  | k :: ks => kOk k ∧ ksOk ks
end
mutual
/-- Numbers are of 64 bits. -/
def fOk : Fd → Prop
  | .mk a l => a.1 < 18446744073709551616 ∧ fsOk l
def fsOk : List Fd → Prop
  | [] => True
  | f :: l => fOk f ∧ fsOk l
end
theorem someW_ok {f : List UInt8 → Option (Kd × Nat)} (hf : ∀ s k n, f s = some (k, n) → kOk k ∧ 1 ≤ n ∧ n ≤ s.length) : ∀ (m : Nat) (s : List UInt8), ksOk (someW f m s).1 ∧ (someW f m s).2 ≤ s.length
  | 0, s => ⟨trivial, Nat.zero_le _⟩
  | m + 1, s => by
    rw [someW]
    cases h : f s with
    | none => exact ⟨trivial, Nat.zero_le _⟩
    | some r =>
      obtain ⟨k, n⟩ := r
      obtain ⟨h1, h2, h3⟩ := hf s k n h
      obtain ⟨h4, h5⟩ := someW_ok hf m (s.drop n)
      rw [List.length_drop] at h5
      exact ⟨⟨h1, h4⟩, by show n + (someW f m (s.drop n)).2 ≤ s.length; omega⟩
theorem oneL_ok : ∀ (d : Nat) (s : List UInt8) (k : Kd) (n : Nat), oneL d s = some (k, n) → kOk k ∧ 1 ≤ n ∧ n ≤ s.length
  | 0, s, k, n, h => by rw [oneL] at h; cases h
  | d + 1, [], k, n, h => by rw [oneL] at h; cases h
  | d + 1, c :: t, k, n, h => by
    rw [oneL] at h
    split at h
    · rename_i hc
      injection h with h
      injection h with h1 h2
      subst h1 h2
      exact ⟨⟨.inr (.inr ⟨hc, rfl⟩), trivial⟩, Nat.le_refl _, by simp⟩
    · split at h
      · split at h
        · cases h
        · rename_i k' n' h'
          split at h
          · injection h with h
            injection h with h1 h2
            subst h1 h2
            obtain ⟨g1, g2, g3⟩ := oneL_ok d t k' n' h'
            exact ⟨⟨.inl ⟨rfl, rfl⟩, g1, trivial⟩, by omega, by rw [List.length_cons]; omega⟩
          · cases h
      · split at h
        · split at h
          · rename_i hh
            injection h with h
            injection h with h1 h2
            subst h1 h2
            obtain ⟨g1, g2⟩ := someW_ok (oneL_ok d) (t.length + 1) t
            have := (List.getElem?_eq_some_iff.1 hh.2).1
            exact ⟨⟨.inr (.inl rfl), g1⟩, by omega, by rw [List.length_cons]; omega⟩
          · cases h
        · cases h
theorem someW_more {f : List UInt8 → Option (Kd × Nat)} (hf : ∀ s k n, f s = some (k, n) → 1 ≤ n ∧ n ≤ s.length) : ∀ (m m' : Nat) (s : List UInt8), s.length < m → s.length < m' → someW f m s = someW f m' s
  | 0, _, s, h, _ => by omega
  | _ + 1, 0, s, _, h => by omega
  | m + 1, m' + 1, s, h1, h2 => by
    rw [someW, someW]
    cases h : f s with
    | none => rfl
    | some r =>
      obtain ⟨k, n⟩ := r
      have h3 := hf s k n h
      have hl : (s.drop n).length = s.length - n := List.length_drop
      simp only [someW_more hf m m' (s.drop n) (by omega) (by omega)]
theorem someL_stop {d : Nat} {s : List UInt8} (h : oneL d s = none) : someL d s = ([], 0) := by
  unfold someL; rw [someW, h]
theorem someL_step {d : Nat} {s : List UInt8} {k : Kd} {n : Nat} (h : oneL d s = some (k, n)) : someL d s = (k :: (someL d (s.drop n)).1, n + (someL d (s.drop n)).2) := by
  have hn := oneL_ok d s k n h
  have hl : (s.drop n).length = s.length - n := List.length_drop
  have := someW_more (fun s k n h => (oneL_ok d s k n h).2) s.length ((s.drop n).length + 1) (s.drop n) (by omega) (by omega)
  unfold someL
  rw [someW, h]
  simp only [this]
theorem someL_ok (d : Nat) (s : List UInt8) : ksOk (someL d s).1 ∧ (someL d s).2 ≤ s.length := someW_ok (oneL_ok d) _ _
theorem kindsL_ok {s : List UInt8} {ks : List Kd} (h : kindsL s = some ks) : ksOk ks := by
  unfold kindsL at h
  split at h
  · injection h with h
    subst h
    exact (someL_ok 5 s).1
  · cases h

theorem dig_len8 {n : Nat} (h : n < 18446744073709551616) : (dig n).length ≤ 8 := by
  have : ∀ (k n : Nat), n < 256 ^ k → (dig n).length ≤ k := by
    intro k
    induction k with
    | zero => intro n h; rw [show n = 0 by simpa using h, dig_zero]; exact Nat.le_refl _
    | succ k ih =>
      intro n h
      rcases Nat.eq_zero_or_pos n with rfl | h0
      · rw [dig_zero]; simp
      · rw [dig_pos h0, List.length_append, List.length_singleton]
        have := ih (n / 256) (by rw [Nat.pow_succ] at h; omega)
        omega
  exact this 8 n (by omega)
theorem value_number {n : Nat} (h : n < 18446744073709551616) : It.value (.mk false (dig n) []) = (n, 0) := by
  have := dig_len8 h
  rw [It.value, if_neg, val_dig]
  simp [canon_dig]
  omega

theorem mapM_back {α β : Type} {f : α → Option β} {g : β → Option α} : ∀ {l : List α} {xs : List β}, (∀ a ∈ l, ∀ b, f a = some b → g b = some a) → l.mapM f = some xs → xs.mapM g = some l
  | [], xs, _, h => by simp at h; subst h; rfl
  | a :: l, xs, hf, h => by
    rw [List.mapM_cons] at h
    simp only [Option.bind_eq_bind, Option.bind_eq_some_iff, Option.pure_def, Option.some.injEq] at h
    obtain ⟨b, h1, ys, h2, rfl⟩ := h
    rw [List.mapM_cons, hf a (by simp) b h1, mapM_back (fun a ha => hf a (by simp [ha])) h2]
    rfl
theorem fsOk_mem : ∀ {l : List Fd}, fsOk l → ∀ f ∈ l, fOk f
  | [], _, f, h => by cases h
  | x :: l, h, f, hf => by
    rw [fsOk] at h
    rcases List.mem_cons.1 hf with rfl | hf
    · exact h.1
    · exact fsOk_mem h.2 f hf

mutual
theorem field_item : ∀ (k : Kd) (f : Fd) (x : It), kOk k → fOk f → itemK k f = some x → fieldK k x = some f
  | .mk c ks, .mk (n, b) l, x, hk, hf, h => by
    rw [itemK] at h
    rw [kOk] at hk
    rw [fOk] at hf
    split at h
    · rename_i hc
      split at h
      · rename_i hb
        injection h with h
        subst h
        rw [fieldK, if_pos hc, value_number hf.1]
        simp [hb]
      · cases h
    · rename_i hc
      split at h
      · rename_i hc2
        split at h
        · rename_i hb
          injection h with h
          subst h
          rw [fieldK, if_neg hc, if_neg (by rw [hc2]; decide), if_neg (by rw [hc2]; decide)]
          simp [hb]
        · cases h
      · split at h
        · rename_i hc2 hc3
          split at h
          · rename_i hb
            obtain ⟨xs, h1, rfl⟩ := Option.map_eq_some_iff.1 h
            rw [fieldK, if_neg hc, if_pos hc3, if_pos rfl, star_back ks l xs hk.2 hf.2 h1]
            simp [hb]
          · cases h
        · split at h
          · rename_i hc2 hc3 hc4
            split at h
            · rename_i hb
              obtain ⟨xs, h1, rfl⟩ := Option.map_eq_some_iff.1 h
              rw [fieldK, if_neg hc, if_neg hc3, if_pos hc4, if_pos rfl, row_back ks l xs hk.2 hf.2 h1]
              simp [hb]
            · cases h
          · rename_i hc2 hc3 hc4
            split at h
            · rename_i hb
              injection h with h
              subst h
              rw [fieldK, if_neg hc, if_neg hc3, if_neg hc4]
              simp [hb]
            · cases h
theorem star_back : ∀ (ks : List Kd) (l : List Fd) (xs : List It), ksOk ks → fsOk l → starI ks l = some xs → starF ks xs = some l
  | [], l, xs, _, _, h => by rw [starI] at h; cases h
  | k :: ks, l, xs, hk, hf, h => by
    rw [starI] at h
    rw [ksOk] at hk
    rw [starF]
    exact mapM_back (fun a ha b hb => field_item k a b hk.1 (fsOk_mem hf a ha) hb) h
theorem row_back : ∀ (ks : List Kd) (l : List Fd) (xs : List It), ksOk ks → fsOk l → rowI ks l = some xs → rowF ks xs = some l
  | [], [], xs, _, _, h => by rw [rowI] at h; injection h with h; subst h; rfl
  | k :: ks, f :: l, xs, hk, hf, h => by
    rw [rowI] at h
    rw [ksOk] at hk
    rw [fsOk] at hf
    obtain ⟨x, h1, h2⟩ := Option.bind_eq_some_iff.1 h
    obtain ⟨ys, h3, rfl⟩ := Option.map_eq_some_iff.1 h2
    rw [rowF, field_item k f x hk.1 hf.1 h1, row_back ks l ys hk.2 hf.2 h3]
    rfl
  | [], _ :: _, xs, _, _, h => by rw [rowI] at h; cases h
  | _ :: _, [], xs, _, _, h => by rw [rowI] at h; cases h
end
/-- What fields are written as, by a form: bytes, and the error's number. -/
def writeF (form : List UInt8) (l : List Fd) : List UInt8 × Int :=
  match kindsL form with
  | none => ([], 1)
  | some ks => if counts l ≤ 1000 then (match itemsT (.mk 40 ks) l with
    | none => ([], 1)
    | some x => x.enc) else ([], 1)
/-- What bytes are read as, by a form. -/
def readF (form s : List UInt8) : List Fd × Int :=
  match kindsL form with
  | none => ([], 1)
  | some ks => if (decL s).2 ≠ 0 then ([], (decL s).2) else (match fieldsT (.mk 40 ks) (decL s).1 with
    | none => ([], 4)
    | some l => if writeF form l = (s, 0) then (l, 0) else ([], 4))

theorem read_written {form a : List UInt8} {l : List Fd} (h : writeF form l = (a, 0)) (hl : fsOk l) : readF form a = (l, 0) := by
  have hw := h
  unfold writeF at h
  unfold readF
  cases hk : kindsL form with
  | none => rw [hk] at h; cases h
  | some ks =>
    rw [hk] at h
    simp only at h ⊢
    split at h
    · cases hx : itemsT (.mk 40 ks) l with
      | none => rw [hx] at h; cases h
      | some x =>
        rw [hx] at h
        simp only at h
        have he : x.enc.2 = 0 := by rw [h]
        have hd := decL_enc he
        obtain ⟨-, -, e1, -, -⟩ := enc_ok he
        have ea : x.write = a := by rw [← e1, h]
        rw [ea] at hd
        rw [hd]
        rw [itemsT, if_neg (by decide)] at hx
        obtain ⟨xs, h1, rfl⟩ := Option.map_eq_some_iff.1 hx
        have hb := row_back ks l xs (kindsL_ok hk) hl h1
        simp only [fieldsT, if_true, if_neg (show ¬ (40 : UInt8) = 42 by decide), hb, hw]
        simp
    · cases h
theorem written_read {form s : List UInt8} {m : List Fd} (h : readF form s = (m, 0)) : writeF form m = (s, 0) := by
  unfold readF at h
  split at h
  · cases h
  · split at h
    · rename_i h1
      injection h with _ h
      exact absurd h h1
    · split at h
      · cases h
      · split at h
        · rename_i h1
          injection h with h _
          subst h
          exact h1
        · cases h
end Go.Proofs.Ytefmlbckbhlgdaa
namespace Go.Proofs.Ytefmlbckbhlgdaa
open Go.RowKit
def encK : TE UInt8 := ⟨1, fun c => [.int .u8 c.toNat], fun _ => rfl, fun a u h => by simp at h; subst h; rfl⟩
def encFd : TE (Nat × List UInt8) := ⟨2, fun a => [.int .u64 a.1, .string (mkS a.2)], fun _ => rfl, fun a u h => by simp at h; rcases h with rfl | rfl <;> rfl⟩
abbrev kV (c : UInt8) (s : Sl) : Value := .agg #[.int .u8 c.toNat, slV s]
abbrev fV (a : Nat × List UInt8) (s : Sl) : Value := .agg #[.int .u64 a.1, .string (mkS a.2), slV s]
theorem info_kind : (Try.prog.info? 111).map (fun i => (i.zero, i.size, i.bytes)) = some (some (.agg #[.int .u8 0, .slice none 0 0]), 2, 32) := by kernel_rfl
theorem info_field : (Try.prog.info? 64).map (fun i => (i.zero, i.size, i.bytes)) = some (some (.agg #[.int .u64 0, .string ⟨#[]⟩, .slice none 0 0]), 3, 48) := by kernel_rfl

/-- How the reading of a kind ends. -/
def OnePost (r : Option (Kd × Nat)) (w : World) (e : Ending) (w' : World) : Prop :=
  match r with
  | none => ∃ c p m q n, e = .returned (.tuple #[.agg #[.int .u8 c, .slice p m q], .int .i64 n, .bool false]) ∧ Below w.heap.size w w'
  | some (k, n) => ∃ p m q, e = .returned (.tuple #[.agg #[.int .u8 k.val.toNat, .slice p m q], .int .i64 n, .bool true]) ∧ RowT encK (fun b => w.heap.size ≤ b) w' (.slice p m q) k.kids ∧ Below w.heap.size w w'
def SomePost (r : List Kd × Nat) (w : World) (e : Ending) (w' : World) : Prop :=
  ∃ v, e = .returned (.tuple #[v, .int .i64 r.2]) ∧ RowT encK (fun b => w.heap.size ≤ b) w' v r.1 ∧ Below w.heap.size w w'

theorem c8_ne {c : UInt8} {n : Nat} (_ : n < 256) (h : c ≠ UInt8.ofNat n) : (((c.toNat : Nat) : Int) == (n : Int)) = false := by
  have : c.toNat ≠ n := fun e => h (by rw [← e]; simp)
  simp
  omega

theorem bl_tail {s : ByteArray} {c : UInt8} {t : List UInt8} (h : bl s = c :: t) : 0 < s.size ∧ s.size = t.length + 1 ∧ bl (s.extract 1 s.size) = t ∧ ∀ (h0 : 0 < s.size), s[0] = c := by
  have hl : s.size = t.length + 1 := by rw [← bl_length, h]; rfl
  refine ⟨by omega, hl, ?_, fun h0 => ?_⟩
  · rw [bl_extract, h, hl, List.take_of_length_le (by simp)]
    rfl
  · have := sget h0
    rw [h] at this
    simp at this
    exact this.symm

theorem bel1 (w : World) (o : Obj) : Below w.heap.size w (w.alloc o) := (Below.refl _ w).alloc (Nat.le_refl _) o
theorem bel2 (w : World) (o o' : Obj) : Below w.heap.size w ((w.alloc o).alloc o') := (bel1 w o).alloc (by simp) o'
theorem bel3 (w : World) (o o' o'' : Obj) : Below w.heap.size w (((w.alloc o).alloc o').alloc o'') := (bel2 w o o').alloc (by simp; omega) o''

/-- Two cells of a box of the call's own, laid anew. -/
theorem box2 {w0 w : World} {B k : Nat} {u0 u1 : Value} {T : TypeId} (R : RowAt w k #[u0, u1] T) (hb : Below B w0 w) (hk : B ≤ k) (v0 v1 : Value) :
    RowAt ((w.setCell ⟨k, 0, none⟩ v0).setCell ⟨k, 1, none⟩ v1) k #[v0, v1] T ∧ Below B w0 ((w.setCell ⟨k, 0, none⟩ v0).setCell ⟨k, 1, none⟩ v1) :=
  ⟨(R.set 0 v0 rfl).set 1 v1 rfl, (hb.setCell (p := ⟨k, 0, none⟩) hk _).setCell (p := ⟨k, 1, none⟩) hk _⟩

set_option maxRecDepth 100000 in
set_option maxHeartbeats 200000 in
theorem one_empty (s : ByteArray) (deep : Nat) (w : World) (h : s = ⟨#[]⟩) : Calls Try.prog 143 #[.string s, .int .i64 deep] w (OnePost none w) := by
  have R := Lib.hid (RowAt.new w #[.int .u8 0, .slice none 0 0] 111)
  have HB := Lib.hid (bel1 w (.cells #[.int .u8 0, .slice none 0 0] 111))
  have HS0 : Hid ((w.alloc (.cells #[.int .u8 0, .slice none 0 0] 111)).heap.size = w.heap.size + 1) := Lib.hid (by simp)
  subst h
  go_enter Try.func143, Try.ntmps143
  go_upto_region 1 with (fail)
  generalize w.alloc (.cells #[.int .u8 0, .slice none 0 0] 111) = W at *
  obtain ⟨z0, z1, zf0, zf1⟩ := R.out.c2
  go_wp2
  obtain ⟨r, b⟩ := box2 R.out HB.out (Nat.le_refl _) (.int .u8 0) (.slice none 0 0)
  obtain ⟨k0, k1, _, _⟩ := r.c2
  refine bodyPost_ret (v := .tuple #[.agg #[.int .u8 0, .slice none 0 0], .int .i64 0, .bool false]) (by simp [results, Try.results143, go_sem, k0, k1]) rfl ?_
  exact ⟨0, none, 0, 0, 0, rfl, b⟩

set_option maxRecDepth 100000 in
set_option maxHeartbeats 200000 in
theorem one_deep (s : ByteArray) (deep : Nat) (w : World) (h : s ≠ ⟨#[]⟩) (hd : 4 < deep) : Calls Try.prog 143 #[.string s, .int .i64 deep] w (OnePost none w) := by
  have R := Lib.hid (RowAt.new w #[.int .u8 0, .slice none 0 0] 111)
  have HB := Lib.hid (bel1 w (.cells #[.int .u8 0, .slice none 0 0] 111))
  have HS0 : Hid ((w.alloc (.cells #[.int .u8 0, .slice none 0 0] 111)).heap.size = w.heap.size + 1) := Lib.hid (by simp)
  have q1 : ¬ s.toList = [] := by simpa using seq_false h
  have q3 : (deep : Int) > 4 := by omega
  clear h
  go_enter Try.func143, Try.ntmps143
  go_upto_region 1 with (fail)
  generalize w.alloc (.cells #[.int .u8 0, .slice none 0 0] 111) = W at *
  obtain ⟨z0, z1, zf0, zf1⟩ := R.out.c2
  go_wp2
  obtain ⟨r, b⟩ := box2 R.out HB.out (Nat.le_refl _) (.int .u8 0) (.slice none 0 0)
  obtain ⟨k0, k1, _, _⟩ := r.c2
  refine bodyPost_ret (v := .tuple #[.agg #[.int .u8 0, .slice none 0 0], .int .i64 0, .bool false]) (by simp [results, Try.results143, go_sem, k0, k1]) rfl ?_
  exact ⟨0, none, 0, 0, 0, rfl, b⟩

set_option maxRecDepth 100000 in
set_option maxHeartbeats 200000 in
theorem one_leaf (s : ByteArray) (c : UInt8) (t : List UInt8) (deep : Nat) (w : World) (h : bl s = c :: t) (hd : deep ≤ 4) (hc : leafK c = true) : Calls Try.prog 143 #[.string s, .int .i64 deep] w (OnePost (some (.mk c [], 1)) w) := by
  have R := Lib.hid (RowAt.new w #[.int .u8 0, .slice none 0 0] 111)
  have HB := Lib.hid (bel1 w (.cells #[.int .u8 0, .slice none 0 0] 111))
  have HS0 : Hid ((w.alloc (.cells #[.int .u8 0, .slice none 0 0] 111)).heap.size = w.heap.size + 1) := Lib.hid (by simp)
  obtain ⟨h0, h1, h2, h3⟩ := bl_tail h
  have h3 := h3 h0
  have q1 : ¬ s.toList = [] := by rw [toList_bl, h]; simp
  have q2 : s.toList.isEmpty = false := by simpa using q1
  have q3 : ¬ (deep : Int) > 4 := by omega
  clear h h2
  have hcc : c = 110 ∨ c = 104 ∨ c = 97 ∨ c = 115 ∨ c = 98 := by simpa [leafK, or_assoc] using hc
  clear hc
  go_enter Try.func143, Try.ntmps143
  go_upto_region 1 with (fail)
  generalize w.alloc (.cells #[.int .u8 0, .slice none 0 0] 111) = W at *
  obtain ⟨z0, z1, zf0, zf1⟩ := R.out.c2
  rcases hcc with h | h | h | h | h
  · have q110 : ((c.toNat : Int) == 110) = true := by rw [h]; rfl
    clear h
    go_wp2
    obtain ⟨r, b⟩ := box2 R.out HB.out (Nat.le_refl _) (.int .u8 c.toNat) (.slice none 0 0)
    obtain ⟨k0, k1, _, _⟩ := r.c2
    refine bodyPost_ret (v := .tuple #[.agg #[.int .u8 c.toNat, .slice none 0 0], .int .i64 1, .bool true]) (by simp [results, Try.results143, go_sem, k0, k1]) rfl ?_
    exact ⟨none, 0, 0, rfl, RowT.nil, b⟩
  · have q110 : ((c.toNat : Int) == 110) = false := by rw [h]; rfl
    have q104 : ((c.toNat : Int) == 104) = true := by rw [h]; rfl
    clear h
    go_wp2
    obtain ⟨r, b⟩ := box2 R.out HB.out (Nat.le_refl _) (.int .u8 c.toNat) (.slice none 0 0)
    obtain ⟨k0, k1, _, _⟩ := r.c2
    refine bodyPost_ret (v := .tuple #[.agg #[.int .u8 c.toNat, .slice none 0 0], .int .i64 1, .bool true]) (by simp [results, Try.results143, go_sem, k0, k1]) rfl ?_
    exact ⟨none, 0, 0, rfl, RowT.nil, b⟩
  · have q110 : ((c.toNat : Int) == 110) = false := by rw [h]; rfl
    have q104 : ((c.toNat : Int) == 104) = false := by rw [h]; rfl
    have q97 : ((c.toNat : Int) == 97) = true := by rw [h]; rfl
    clear h
    go_wp2
    obtain ⟨r, b⟩ := box2 R.out HB.out (Nat.le_refl _) (.int .u8 c.toNat) (.slice none 0 0)
    obtain ⟨k0, k1, _, _⟩ := r.c2
    refine bodyPost_ret (v := .tuple #[.agg #[.int .u8 c.toNat, .slice none 0 0], .int .i64 1, .bool true]) (by simp [results, Try.results143, go_sem, k0, k1]) rfl ?_
    exact ⟨none, 0, 0, rfl, RowT.nil, b⟩
  · have q110 : ((c.toNat : Int) == 110) = false := by rw [h]; rfl
    have q104 : ((c.toNat : Int) == 104) = false := by rw [h]; rfl
    have q97 : ((c.toNat : Int) == 97) = false := by rw [h]; rfl
    have q115 : ((c.toNat : Int) == 115) = true := by rw [h]; rfl
    clear h
    go_wp2
    obtain ⟨r, b⟩ := box2 R.out HB.out (Nat.le_refl _) (.int .u8 c.toNat) (.slice none 0 0)
    obtain ⟨k0, k1, _, _⟩ := r.c2
    refine bodyPost_ret (v := .tuple #[.agg #[.int .u8 c.toNat, .slice none 0 0], .int .i64 1, .bool true]) (by simp [results, Try.results143, go_sem, k0, k1]) rfl ?_
    exact ⟨none, 0, 0, rfl, RowT.nil, b⟩
  · have q110 : ((c.toNat : Int) == 110) = false := by rw [h]; rfl
    have q104 : ((c.toNat : Int) == 104) = false := by rw [h]; rfl
    have q97 : ((c.toNat : Int) == 97) = false := by rw [h]; rfl
    have q115 : ((c.toNat : Int) == 115) = false := by rw [h]; rfl
    have q98 : ((c.toNat : Int) == 98) = true := by rw [h]; rfl
    clear h
    go_wp2
    obtain ⟨r, b⟩ := box2 R.out HB.out (Nat.le_refl _) (.int .u8 c.toNat) (.slice none 0 0)
    obtain ⟨k0, k1, _, _⟩ := r.c2
    refine bodyPost_ret (v := .tuple #[.agg #[.int .u8 c.toNat, .slice none 0 0], .int .i64 1, .bool true]) (by simp [results, Try.results143, go_sem, k0, k1]) rfl ?_
    exact ⟨none, 0, 0, rfl, RowT.nil, b⟩

theorem leafK_no {c : UInt8} (h : leafK c = false) : c ≠ 110 ∧ c ≠ 104 ∧ c ≠ 97 ∧ c ≠ 115 ∧ c ≠ 98 := by
  simpa [leafK, and_assoc] using h
set_option maxRecDepth 100000 in
set_option maxHeartbeats 200000 in
theorem one_other (s : ByteArray) (c : UInt8) (t : List UInt8) (deep : Nat) (w : World) (h : bl s = c :: t) (hd : deep ≤ 4) (hc : leafK c = false) (h42 : c ≠ 42) (h40 : c ≠ 40) : Calls Try.prog 143 #[.string s, .int .i64 deep] w (OnePost none w) := by
  have R := Lib.hid (RowAt.new w #[.int .u8 0, .slice none 0 0] 111)
  have HB := Lib.hid (bel1 w (.cells #[.int .u8 0, .slice none 0 0] 111))
  have HS0 : Hid ((w.alloc (.cells #[.int .u8 0, .slice none 0 0] 111)).heap.size = w.heap.size + 1) := Lib.hid (by simp)
  obtain ⟨h0, h1, h2, h3⟩ := bl_tail h
  have h3 := h3 h0
  have q1 : ¬ s.toList = [] := by rw [toList_bl, h]; simp
  have q2 : s.toList.isEmpty = false := by simpa using q1
  have q3 : ¬ (deep : Int) > 4 := by omega
  have hl := leafK_no hc
  have q110 : ((c.toNat : Int) == 110) = false := c8_ne (n := 110) (by omega) (by first | assumption | exact hl.1 | exact hl.2.1 | exact hl.2.2.1 | exact hl.2.2.2.1 | exact hl.2.2.2.2)
  have q104 : ((c.toNat : Int) == 104) = false := c8_ne (n := 104) (by omega) (by first | assumption | exact hl.1 | exact hl.2.1 | exact hl.2.2.1 | exact hl.2.2.2.1 | exact hl.2.2.2.2)
  have q97 : ((c.toNat : Int) == 97) = false := c8_ne (n := 97) (by omega) (by first | assumption | exact hl.1 | exact hl.2.1 | exact hl.2.2.1 | exact hl.2.2.2.1 | exact hl.2.2.2.2)
  have q115 : ((c.toNat : Int) == 115) = false := c8_ne (n := 115) (by omega) (by first | assumption | exact hl.1 | exact hl.2.1 | exact hl.2.2.1 | exact hl.2.2.2.1 | exact hl.2.2.2.2)
  have q98 : ((c.toNat : Int) == 98) = false := c8_ne (n := 98) (by omega) (by first | assumption | exact hl.1 | exact hl.2.1 | exact hl.2.2.1 | exact hl.2.2.2.1 | exact hl.2.2.2.2)
  have q42 : ((c.toNat : Int) == 42) = false := c8_ne (n := 42) (by omega) (by first | assumption | exact hl.1 | exact hl.2.1 | exact hl.2.2.1 | exact hl.2.2.2.1 | exact hl.2.2.2.2)
  have q40 : ((c.toNat : Int) == 40) = false := c8_ne (n := 40) (by omega) (by first | assumption | exact hl.1 | exact hl.2.1 | exact hl.2.2.1 | exact hl.2.2.2.1 | exact hl.2.2.2.2)
  clear h h2 hc hl h42 h40
  go_enter Try.func143, Try.ntmps143
  go_upto_region 1 with (fail)
  generalize w.alloc (.cells #[.int .u8 0, .slice none 0 0] 111) = W at *
  obtain ⟨z0, z1, zf0, zf1⟩ := R.out.c2
  go_wp2
  obtain ⟨r, b⟩ := box2 R.out HB.out (Nat.le_refl _) (.int .u8 0) (.slice none 0 0)
  obtain ⟨k0, k1, _, _⟩ := r.c2
  refine bodyPost_ret (v := .tuple #[.agg #[.int .u8 0, .slice none 0 0], .int .i64 0, .bool false]) (by simp [results, Try.results143, go_sem, k0, k1]) rfl ?_
  exact ⟨0, none, 0, 0, 0, rfl, b⟩

set_option maxRecDepth 100000 in
set_option maxHeartbeats 200000 in
theorem one_star (s : ByteArray) (t : List UInt8) (deep : Nat) (w : World) (h : bl s = 42 :: t) (hd : deep ≤ 4) (r : Option (Kd × Nat)) (hr : ∀ (k : Kd) (n : Nat), r = some (k, n) → n ≤ t.length) (hI : ∀ W, Calls Try.prog 143 #[.string (s.extract 1 s.size), .int .i64 (deep + 1)] W (OnePost r W)) (hz : t.length ≤ 1000) :
    Calls Try.prog 143 #[.string s, .int .i64 deep] w (OnePost (match r with | none => none | some (k, n) => if deep < 4 then some (.mk 42 [k], n + 1) else none) w) := by
  have R := Lib.hid (RowAt.new w #[.int .u8 0, .slice none 0 0] 111)
  have HB := Lib.hid (bel1 w (.cells #[.int .u8 0, .slice none 0 0] 111))
  have HS0 : Hid ((w.alloc (.cells #[.int .u8 0, .slice none 0 0] 111)).heap.size = w.heap.size + 1) := Lib.hid (by simp)
  obtain ⟨h0, h1, h2, h3⟩ := bl_tail h
  have h3 := h3 h0
  have q1 : ¬ s.toList = [] := by rw [toList_bl, h]; simp
  have q2 : s.toList.isEmpty = false := by simpa using q1
  have q3 : ¬ (deep : Int) > 4 := by omega
  obtain ⟨c, hc⟩ : ∃ c : UInt8, c = 42 := ⟨_, rfl⟩
  rw [← hc] at h3
  have q110 : ((c.toNat : Int) == 110) = false := by rw [hc]; rfl
  have q104 : ((c.toNat : Int) == 104) = false := by rw [hc]; rfl
  have q97 : ((c.toNat : Int) == 97) = false := by rw [hc]; rfl
  have q115 : ((c.toNat : Int) == 115) = false := by rw [hc]; rfl
  have q98 : ((c.toNat : Int) == 98) = false := by rw [hc]; rfl
  have q42 : ((c.toNat : Int) == 42) = true := by rw [hc]; rfl
  have HC := Lib.hid hc
  rw [h1] at hI
  have HI := Lib.hid hI
  clear h h2 hc hI
  go_enter Try.func143, Try.ntmps143
  go_upto_region 1 with (fail)
  generalize w.alloc (.cells #[.int .u8 0, .slice none 0 0] 111) = W at *
  obtain ⟨z0, z1, zf0, zf1⟩ := R.out.c2
  have HWS : Hid (W.heap.size = w.heap.size + 1) := HS0
  cases r with
  | none =>
    go_upto_region 13 with (go_at_call 143; refine (HI.out _).mono ?_; rintro e w1 ⟨cx, px, mx, qx, nx, rfl, hb⟩; (replace R := Lib.hid (R.out.belowS hb); replace HB := Lib.hid (HB.out.trans (hb.mono HB.out.size)); clear hb); clear z0 z1 zf0 zf1)
    (replace R := Lib.hid (R.out.alloc (.cells #[.int .u8 cx, .slice px mx qx] 111)); replace HB := Lib.hid (HB.out.alloc HB.out.size (.cells #[.int .u8 cx, .slice px mx qx] 111)))
    have R8 := Lib.hid (RowAt.new w1 #[.int .u8 cx, .slice px mx qx] 111)
    generalize w1.alloc (.cells #[.int .u8 cx, .slice px mx qx] 111) = w2 at *
    generalize w1.heap.size = k8 at *
    have R3 := Lib.hid (R.out.alloc (.cells #[.int .u8 cx, .slice px mx qx] 111))
    have HB3 := Lib.hid (HB.out.alloc HB.out.size (.cells #[.int .u8 cx, .slice px mx qx] 111))
    obtain ⟨x0, x1, xf0, xf1⟩ := R8.out.c2
    obtain ⟨z0, z1, zf0, zf1⟩ := R3.out.c2
    go_wp2
    obtain ⟨r, b⟩ := box2 R3.out HB3.out (Nat.le_refl _) (.int .u8 42) (.slice (some ⟨w2.heap.size, 0, none⟩) 1 1)
    obtain ⟨k0, k1, _, _⟩ := r.c2
    refine bodyPost_ret (v := .tuple #[.agg #[.int .u8 42, .slice (some ⟨w2.heap.size, 0, none⟩) 1 1], .int .i64 (wrap64 (nx + 1)), .bool false]) (by simp [results, Try.results143, go_sem, k0, k1]) rfl ?_
    exact ⟨_, _, _, _, _, rfl, b⟩
  | some kn =>
    obtain ⟨k, n⟩ := kn
    have hn := hr k n rfl
    have q5 : IntKind.i64.wrap ((n : Int) + 1) = (n : Int) + 1 := by rw [IntKind.wrap_i64]; omega
    clear hr
    go_upto_region 13 with (go_at_call 143; refine (HI.out _).mono ?_; rintro e w1 ⟨px, mx, qx, rfl, hrow, hb⟩; have HR := Lib.hid hrow; clear hrow; have HW1 := Lib.hid hb.size; (replace R := Lib.hid (R.out.belowS hb); replace HB := Lib.hid (HB.out.trans (hb.mono HB.out.size)); clear hb); clear z0 z1 zf0 zf1)
    (replace R := Lib.hid (R.out.alloc (.cells #[.int .u8 k.val.toNat, .slice px mx qx] 111)); replace HB := Lib.hid (HB.out.alloc HB.out.size (.cells #[.int .u8 k.val.toNat, .slice px mx qx] 111)))
    replace HR := Lib.hid (HR.out.below (bel1 w1 (.cells #[.int .u8 k.val.toNat, .slice px mx qx] 111)) (Nat.le_refl _))
    have R8 := Lib.hid (RowAt.new w1 #[.int .u8 k.val.toNat, .slice px mx qx] 111)
    have HW2 : Hid (W.heap.size ≤ (w1.alloc (.cells #[.int .u8 k.val.toNat, .slice px mx qx] 111)).heap.size) := Lib.hid (by have := HW1.out; simp; omega)
    generalize w1.alloc (.cells #[.int .u8 k.val.toNat, .slice px mx qx] 111) = w2 at *
    generalize w1.heap.size = k8 at *
    have R3 := Lib.hid (R.out.alloc (.cells #[.int .u8 k.val.toNat, .slice px mx qx] 111))
    have HB3 := Lib.hid (HB.out.alloc HB.out.size (.cells #[.int .u8 k.val.toNat, .slice px mx qx] 111))
    have HR3 := Lib.hid (HR.out.below (bel1 w2 (.cells #[.int .u8 k.val.toNat, .slice px mx qx] 111)) (Nat.le_refl _))
    have R9 := Lib.hid (RowAt.new w2 #[.int .u8 k.val.toNat, .slice px mx qx] 111)
    have HK : Hid (RowT encK (fun b => W.heap.size ≤ b) (w2.alloc (.cells #[.int .u8 k.val.toNat, .slice px mx qx] 111)) (.slice (some ⟨w2.heap.size, 0, none⟩) 1 1) [k]) := Lib.hid (RowT.one (s := (px, mx, qx)) R9.out rfl HW2.out HR3.out)
    obtain ⟨x0, x1, xf0, xf1⟩ := R8.out.c2
    obtain ⟨z0, z1, zf0, zf1⟩ := R3.out.c2
    by_cases h4 : deep < 4
    · have q6 : (deep : Int) < 4 := by omega
      go_wp2
      obtain ⟨r, b⟩ := box2 R3.out HB3.out (Nat.le_refl _) (.int .u8 42) (.slice (some ⟨w2.heap.size, 0, none⟩) 1 1)
      obtain ⟨k0, k1, _, _⟩ := r.c2
      refine bodyPost_ret (v := .tuple #[.agg #[.int .u8 42, .slice (some ⟨w2.heap.size, 0, none⟩) 1 1], .int .i64 ((n : Int) + 1), .bool true]) (by simp [results, Try.results143, go_sem, k0, k1]) rfl ?_
      exact ⟨some ⟨w2.heap.size, 0, none⟩, 1, 1, rfl, HK.out.keep (fun a v ha hc => by rw [World.cell?_setCell_other, World.cell?_setCell_other]; exact hc; all_goals (intro e; subst e; have := HWS.out; simp only at ha; omega)) (fun b hb => by have := HWS.out; omega), b⟩
    · have q6 : ¬ (deep : Int) < 4 := by omega
      go_wp2
      obtain ⟨r, b⟩ := box2 R3.out HB3.out (Nat.le_refl _) (.int .u8 42) (.slice (some ⟨w2.heap.size, 0, none⟩) 1 1)
      obtain ⟨k0, k1, _, _⟩ := r.c2
      refine bodyPost_ret (v := .tuple #[.agg #[.int .u8 42, .slice (some ⟨w2.heap.size, 0, none⟩) 1 1], .int .i64 ((n : Int) + 1), .bool false]) (by simp [results, Try.results143, go_sem, k0, k1]) rfl ?_
      exact ⟨_, _, _, _, _, rfl, b⟩

set_option maxRecDepth 100000 in
set_option maxHeartbeats 200000 in
theorem one_paren (s : ByteArray) (t : List UInt8) (deep : Nat) (w : World) (h : bl s = 40 :: t) (hd : deep ≤ 4) (r : List Kd × Nat) (hr : r.2 ≤ t.length) (hI : ∀ W, Calls Try.prog 95 #[.string (s.extract 1 s.size), .int .i64 (deep + 1)] W (SomePost r W)) (hz : t.length ≤ 1000) (res : Option (Kd × Nat)) (hres : res = if deep < 4 ∧ t[r.2]? = some 41 then some (.mk 40 r.1, r.2 + 2) else none) :
    Calls Try.prog 143 #[.string s, .int .i64 deep] w (OnePost res w) := by
  have R := Lib.hid (RowAt.new w #[.int .u8 0, .slice none 0 0] 111)
  have HB := Lib.hid (bel1 w (.cells #[.int .u8 0, .slice none 0 0] 111))
  have HS0 : Hid ((w.alloc (.cells #[.int .u8 0, .slice none 0 0] 111)).heap.size = w.heap.size + 1) := Lib.hid (by simp)
  obtain ⟨h0, h1, h2, h3⟩ := bl_tail h
  have h3 := h3 h0
  have q1 : ¬ s.toList = [] := by rw [toList_bl, h]; simp
  have q2 : s.toList.isEmpty = false := by simpa using q1
  have q3 : ¬ (deep : Int) > 4 := by omega
  obtain ⟨c, hc⟩ : ∃ c : UInt8, c = 40 := ⟨_, rfl⟩
  rw [← hc] at h3
  have q110 : ((c.toNat : Int) == 110) = false := by rw [hc]; rfl
  have q104 : ((c.toNat : Int) == 104) = false := by rw [hc]; rfl
  have q97 : ((c.toNat : Int) == 97) = false := by rw [hc]; rfl
  have q115 : ((c.toNat : Int) == 115) = false := by rw [hc]; rfl
  have q98 : ((c.toNat : Int) == 98) = false := by rw [hc]; rfl
  have q42 : ((c.toNat : Int) == 42) = false := by rw [hc]; rfl
  have q40 : ((c.toNat : Int) == 40) = true := by rw [hc]; rfl
  have hget : ∀ (i : Nat) (x : UInt8), t[i]? = some x → ∃ h : i + 1 < s.size, s[i + 1] = x := fun i x hx => by
    have hi := (List.getElem?_eq_some_iff.1 hx).1
    have hlt : i + 1 < s.size := by omega
    refine ⟨hlt, ?_⟩
    have := sget hlt
    rw [h, List.getElem?_cons_succ, hx] at this
    injection this with this
    exact this.symm
  rw [h1] at hI
  have HI := Lib.hid hI
  clear h h2 hc hI
  go_enter Try.func143, Try.ntmps143
  go_upto_region 1 with (fail)
  generalize w.alloc (.cells #[.int .u8 0, .slice none 0 0] 111) = W at *
  obtain ⟨z0, z1, zf0, zf1⟩ := R.out.c2
  have HWS : Hid (W.heap.size = w.heap.size + 1) := HS0
  obtain ⟨ks, n⟩ := r
  simp only at hr hres
  have HRES := Lib.hid hres
  clear hres
  have q5 : IntKind.i64.wrap ((n : Int) + 1) = (n : Int) + 1 := by rw [IntKind.wrap_i64]; omega
  have q6 : IntKind.i64.wrap ((n : Int) + 2) = (n : Int) + 2 := by rw [IntKind.wrap_i64]; omega
  go_upto_region 16 with (go_at_call 95; refine (HI.out _).mono ?_; rintro e w1 ⟨v, rfl, hrow, hb⟩; obtain ⟨px, qx, rfl, _, _⟩ := RowT.shape hrow; have HR := Lib.hid hrow; clear hrow; (replace R := Lib.hid (R.out.belowS hb); replace HB := Lib.hid (HB.out.trans (hb.mono HB.out.size)); clear hb); clear z0 z1 zf0 zf1)
  obtain ⟨z0, z1, zf0, zf1⟩ := R.out.c2
  have HK : ∀ v0 v1, RowT encK (fun b => w.heap.size ≤ b) ((w1.setCell ⟨w.heap.size, 0, none⟩ v0).setCell ⟨w.heap.size, 1, none⟩ v1) (.slice px ks.length qx) ks := fun v0 v1 => HR.out.keep (fun a v ha hc => by rw [World.cell?_setCell_other, World.cell?_setCell_other]; exact hc; all_goals (intro e; subst e; have := HWS.out; simp only at ha; omega)) (fun b hb => by have := HWS.out; omega)
  have HK := Lib.hid HK
  by_cases h4 : deep < 4
  · have q7 : (deep : Int) < 4 := by omega
    cases hx : t[n]? with
    | none =>
      have hn := List.getElem?_eq_none_iff.1 hx
      have q8 : ¬ (n : Int) + 1 < (t.length : Int) + 1 := by omega
      have q9 : ¬ n < t.length := by omega
      clear hx
      go_wp2
      obtain ⟨r, b⟩ := box2 R.out HB.out (Nat.le_refl _) (.int .u8 40) (.slice px ks.length qx)
      obtain ⟨k0, k1, _, _⟩ := r.c2
      refine bodyPost_ret (v := .tuple #[.agg #[.int .u8 40, .slice px ks.length qx], .int .i64 ((n : Int) + 2), .bool false]) (by simp [results, Try.results143, go_sem, k0, k1]) rfl ?_
      rw [HRES.out, if_neg (fun h => by have := (List.getElem?_eq_some_iff.1 h.2).1; omega)]
      exact ⟨_, _, _, _, _, rfl, b⟩
    | some x =>
      obtain ⟨hlt, hg⟩ := hget n x hx
      have HXX := Lib.hid hx
      clear hx
      by_cases h41 : x = 41
      · have q8 : ((x.toNat : Int) == 41) = true := by rw [h41]; rfl
        have HX := Lib.hid h41
        clear h41
        go_wp2
        obtain ⟨r, b⟩ := box2 R.out HB.out (Nat.le_refl _) (.int .u8 40) (.slice px ks.length qx)
        obtain ⟨k0, k1, _, _⟩ := r.c2
        refine bodyPost_ret (v := .tuple #[.agg #[.int .u8 40, .slice px ks.length qx], .int .i64 ((n : Int) + 2), .bool true]) (by simp [results, Try.results143, go_sem, k0, k1]) rfl ?_
        rw [HRES.out, if_pos ⟨h4, by rw [HXX.out, HX.out]⟩]
        exact ⟨px, ks.length, qx, rfl, HK.out _ _, b⟩
      · have q8 : ((x.toNat : Int) == 41) = false := c8_ne (n := 41) (by omega) h41
        have HX := Lib.hid h41
        clear h41
        go_wp2
        obtain ⟨r, b⟩ := box2 R.out HB.out (Nat.le_refl _) (.int .u8 40) (.slice px ks.length qx)
        obtain ⟨k0, k1, _, _⟩ := r.c2
        refine bodyPost_ret (v := .tuple #[.agg #[.int .u8 40, .slice px ks.length qx], .int .i64 ((n : Int) + 2), .bool false]) (by simp [results, Try.results143, go_sem, k0, k1]) rfl ?_
        rw [HRES.out, if_neg (fun h => HX.out (by have := h.2; rw [HXX.out] at this; injection this))]
        exact ⟨_, _, _, _, _, rfl, b⟩
  · have q7 : ¬ (deep : Int) < 4 := by omega
    go_wp2
    obtain ⟨r, b⟩ := box2 R.out HB.out (Nat.le_refl _) (.int .u8 40) (.slice px ks.length qx)
    obtain ⟨k0, k1, _, _⟩ := r.c2
    refine bodyPost_ret (v := .tuple #[.agg #[.int .u8 40, .slice px ks.length qx], .int .i64 ((n : Int) + 2), .bool false]) (by simp [results, Try.results143, go_sem, k0, k1]) rfl ?_
    rw [HRES.out, if_neg (fun h => h4 h.1)]
    exact ⟨_, _, _, _, _, rfl, b⟩
end Go.Proofs.Ytefmlbckbhlgdaa
namespace Go.Proofs.Ytefmlbckbhlgdaa
open Go.RowKit
def OneC (d : Nat) : Prop := ∀ (deep : Nat) (s : ByteArray) (w : World), deep + d = 5 → s.size ≤ 1000 → Calls Try.prog 143 #[.string s, .int .i64 deep] w (OnePost (oneL d (bl s)) w)
def SomeC (d : Nat) : Prop := ∀ (deep : Nat) (s : ByteArray) (w : World), deep + d = 5 → s.size ≤ 1000 → Calls Try.prog 95 #[.string s, .int .i64 deep] w (SomePost (someL d (bl s)) w)

theorem OnePost.parts {r : Option (Kd × Nat)} {w w' : World} {e : Ending} (h : OnePost r w e w') : ∃ c p m q n is, e = .returned (.tuple #[.agg #[.int .u8 c, .slice p m q], .int .i64 n, .bool is]) ∧ Below w.heap.size w w' ∧
    ((r = none ∧ is = false) ∨ ∃ k n', r = some (k, n') ∧ is = true ∧ n = (n' : Int) ∧ c = (k.val.toNat : Int) ∧ Hid (RowT encK (fun b => w.heap.size ≤ b) w' (.slice p m q) k.kids)) := by
  cases r with
  | none =>
    obtain ⟨c, p, m, q, n, rfl, hb⟩ := h
    exact ⟨c, p, m, q, n, false, rfl, hb, .inl ⟨rfl, rfl⟩⟩
  | some kn =>
    obtain ⟨p, m, q, rfl, hr, hb⟩ := h
    exact ⟨_, p, m, q, _, true, rfl, hb, .inr ⟨kn.1, kn.2, rfl, rfl, rfl, rfl, Lib.hid hr⟩⟩

set_option maxRecDepth 100000 in
set_option maxHeartbeats 2000000 in
theorem some_of (d : Nat) (H : OneC d) : SomeC d := by
  intro deep s w hd hs
  have HO := Lib.hid (fun (at' : Nat) W => H deep (s.extract at' s.size) W hd (by rw [ByteArray.size_extract]; omega))
  have HB0 := Lib.hid (Below.refl w.heap.size w)
  have HT0 : Hid (OwnT encK 111 (fun b => w.heap.size ≤ b) w w.heap.size (.slice none 0 0) []) := Lib.hid (OwnT.nil _ _)
  have HR0 : Hid (someL d (bl s) = ([] ++ (someL d ((bl s).drop 0)).1, 0 + (someL d ((bl s).drop 0)).2)) := Lib.hid (by simp)
  have HN := Lib.hid (fun (a : Nat) => show bl (s.extract a s.size) = (bl s).drop a by rw [bl_extract, stake_all])
  have HL : Hid (∀ (t : List UInt8) (k : Kd) (n : Nat), oneL d t = some (k, n) → 1 ≤ n ∧ n ≤ t.length) := Lib.hid (fun t k n h => (oneL_ok d t k n h).2)
  have hlen : (bl s).length = s.size := bl_length s
  have hdd : (deep : Int) ≤ 5 := by omega
  clear H hd
  go_enter Try.func95, Try.ntmps95
  go_wp2
  go_step3
  go_wp2
  go_step3
  go_wp2
  go_loopw [6, 7] (fun s6 s7 wr => ∃ (a : Nat) (ts : List Kd), a ≤ s.size ∧ ts.length ≤ a ∧ s7 = .int .i64 a ∧ Hid (OwnT encK 111 (fun b => w.heap.size ≤ b) wr w.heap.size s6 ts) ∧ Hid (someL d (bl s) = (ts ++ (someL d ((bl s).drop a)).1, a + (someL d ((bl s).drop a)).2)) ∧ Hid (Below w.heap.size w wr)) (fun _ c _ => s.size - (intOf c).toNat)
  case atStart => exact ⟨0, [], Nat.zero_le _, Nat.le_refl _, rfl, HT0, HR0, HB0⟩
  case round =>
    clear HT0 HR0 HB0
    obtain ⟨a, ts, ha, hta, rfl, ht, hr, hb⟩ := hrel
    have HT := Lib.hid ht.out
    have HR := Lib.hid hr.out
    have HB := Lib.hid hb.out
    clear ht hr hb
    have K := HO.out a wr
    rw [HN.out a] at K
    have K := Lib.hid K
    go_upto_region 4 with (go_at_call 143; refine K.out.mono ?_; intro e w1 hp; obtain ⟨c, p, m, q, n, is, rfl, hb, hcase⟩ := OnePost.parts hp; clear hp; have HB1 := Lib.hid hb; clear hb)
    rcases hcase with ⟨h1, rfl⟩ | ⟨k, n', h1, rfl, rfl, rfl, hrow⟩
    · have hfin := HR.out
      rw [someL_stop h1, List.append_nil, Nat.add_zero] at hfin
      have HF := Lib.hid hfin
      clear hfin h1
      have HT2 := Lib.hid ((HT.out.below HB1.out (Nat.le_refl _)).below (bel1 w1 (.cells #[.int .u8 c, .slice p m q] 111)) (Nat.le_refl _))
      have HB2 := Lib.hid ((HB.out.trans (HB1.out.mono HB.out.size)).trans ((bel1 w1 (.cells #[.int .u8 c, .slice p m q] 111)).mono (Nat.le_trans HB.out.size HB1.out.size)))
      generalize w1.alloc (.cells #[.int .u8 c, .slice p m q] 111) = w2 at *
      go_wp2
      refine bodyPost_ret (v := .tuple #[u6, .int .i64 a]) (by simp [results, Try.results95, go_sem]) rfl ?_
      rw [HF.out]
      exact ⟨_, rfl, HT2.out.row (fun b hb => hb), HB2.out⟩
    · have hst := HR.out
      rw [someL_step h1] at hst
      have hn := HL.out _ _ _ h1
      rw [List.length_drop, hlen] at hn
      have hst2 : someL d (bl s) = ((ts ++ [k]) ++ (someL d ((bl s).drop (a + n'))).1, (a + n') + (someL d ((bl s).drop (a + n'))).2) := by
        rw [hst, List.drop_drop]
        simp [Nat.add_assoc]
      have HST := Lib.hid hst2
      clear hst hst2 h1
      have q1 : IntKind.i64.wrap ((a : Int) + (n' : Int)) = (a : Int) + (n' : Int) := by rw [IntKind.wrap_i64]; omega
      have HS1 := Lib.hid (show wr.heap.size ≤ w1.heap.size from HB1.out.size)
      have HT2 := Lib.hid ((HT.out.below HB1.out (Nat.le_refl _)).below (bel2 w1 (.cells #[.int .u8 k.val.toNat, .slice p m q] 111) (.cells #[.int .u8 k.val.toNat, .slice p m q] 111)) (Nat.le_refl _))
      have HB2 := Lib.hid ((HB.out.trans (HB1.out.mono HB.out.size)).trans ((bel2 w1 (.cells #[.int .u8 k.val.toNat, .slice p m q] 111) (.cells #[.int .u8 k.val.toNat, .slice p m q] 111)).mono (Nat.le_trans HB.out.size HB1.out.size)))
      have R8 := Lib.hid (RowAt.new w1 #[.int .u8 k.val.toNat, .slice p m q] 111)
      have HY := Lib.hid ((HT.out.fresh (s := (p, m, q)) (Nat.le_refl _) (fun b hb => Nat.le_trans HB.out.size hb) hrow.out).move (bel2 w1 (.cells #[.int .u8 k.val.toNat, .slice p m q] 111) (.cells #[.int .u8 k.val.toNat, .slice p m q] 111)) (Nat.le_refl _))
      have R9 := Lib.hid (RowAt.new (w1.alloc (.cells #[.int .u8 k.val.toNat, .slice p m q] 111)) #[.int .u8 k.val.toNat, .slice p m q] 111)
      have HSZ : Hid (w.heap.size ≤ ((w1.alloc (.cells #[.int .u8 k.val.toNat, .slice p m q] 111)).alloc (.cells #[.int .u8 k.val.toNat, .slice p m q] 111)).heap.size) := Lib.hid HB2.out.size
      clear HT HB HB1 hrow
      generalize w1.alloc (.cells #[.int .u8 k.val.toNat, .slice p m q] 111) = w2 at *
      generalize w1.heap.size = k8 at *
      obtain ⟨x0, x1, xf0, xf1⟩ := R8.out.c2
      go_upto_region 6 with (at_builtin; refine wpList_append_tree (E := encK) (A := fun b => w.heap.size ≤ b) Try.underlying103 info_kind rfl (by omega) rfl _ _ rfl w.heap.size _ ts rfl HT2.out ⟨w2.heap.size, 0, none⟩ k (k.val, p, m, q) rfl (lit_cells R9.out rfl) HY.out (by omega) HSZ.out ?_)
      intro v' w' ho hg hbb hz
      have HO2 := Lib.hid ho
      have HB3 := Lib.hid (hbb _ HB2.out)
      clear ho hg hbb hz
      go_wp2
      exact ⟨⟨a + n', ts ++ [k], by omega, by simp; omega, by simp, HO2, HST, HB3⟩, by simp [intOf]; omega⟩

theorem one_any : ∀ d : Nat, OneC d
  | 0 => fun deep s w hd hs => by
    rw [oneL]
    by_cases h : s = ⟨#[]⟩
    · exact one_empty s deep w h
    · exact one_deep s deep w h (by omega)
  | d + 1 => fun deep s w hd hs => by
    cases hb : bl s with
    | nil =>
      rw [oneL]
      exact one_empty s deep w (bl_inj (by rw [hb]; rfl))
    | cons c t =>
      obtain ⟨h0, h1, h2, _⟩ := bl_tail hb
      have hsz : (s.extract 1 s.size).size ≤ 1000 := by rw [ByteArray.size_extract]; omega
      rw [oneL]
      by_cases hc : leafK c = true
      · rw [if_pos hc]
        exact one_leaf s c t deep w hb (by omega) hc
      · rw [if_neg hc]
        by_cases h42 : c = 42
        · subst h42
          rw [if_pos rfl]
          have K := fun W => one_any d (deep + 1) (s.extract 1 s.size) W (by omega) hsz
          rw [h2] at K
          have := one_star s t deep w hb (by omega) (oneL d t) (fun k n h => (oneL_ok d t k n h).2.2) K (by omega)
          refine this.mono fun e w' h => ?_
          cases ho : oneL d t with
          | none => rw [ho] at h; exact h
          | some kn =>
            rw [ho] at h
            simp only at h ⊢
            have e : (0 < d) = (deep < 4) := by simp; omega
            simp only [e]
            exact h
        · rw [if_neg h42]
          by_cases h40 : c = 40
          · subst h40
            rw [if_pos rfl]
            have K := fun W => some_of d (one_any d) (deep + 1) (s.extract 1 s.size) W (by omega) hsz
            rw [h2] at K
            refine one_paren s t deep w hb (by omega) (someL d t) (someL_ok d t).2 K (by omega) _ ?_
            have e : (0 < d) = (deep < 4) := by simp; omega
            simp only [e]
            rfl
          · rw [if_neg h40]
            exact one_other s c t deep w hb (by omega) (by simpa using hc) h42 h40

/-- How the reading of a form ends. -/
def KindsPost (r : Option (List Kd)) (w : World) (e : Ending) (w' : World) : Prop :=
  ∃ v, e = .returned (.tuple #[v, .bool r.isSome]) ∧ (∀ ks, r = some ks → RowT encK (fun b => w.heap.size ≤ b) w' v ks) ∧ (∃ p n c, v = .slice p n c) ∧ Below w.heap.size w w'

set_option maxRecDepth 100000 in
set_option maxHeartbeats 2000000 in
theorem kinds_any (s : ByteArray) (w : World) (hs : s.size ≤ 1000) : Calls Try.prog 51 #[.string s] w (KindsPost (kindsL (bl s)) w) := by
  have K := Lib.hid (fun W => some_of 5 (one_any 5) 0 s W rfl hs)
  have hlen : (bl s).length = s.size := bl_length s
  by_cases h : s.size ≤ 40
  · have q : ¬ (s.size : Int) > 40 := by omega
    have HK : Hid (kindsL (bl s) = if (someL 5 (bl s)).2 = s.size then some (someL 5 (bl s)).1 else none) := Lib.hid (by unfold kindsL; rw [hlen]; simp [h])
    clear h
    generalize kindsL (bl s) = r at *
    generalize someL 5 (bl s) = kn at *
    obtain ⟨ks, n⟩ := kn
    by_cases hn : n = s.size
    · have hr := HK.out
      rw [if_pos hn] at hr
      subst hr
      have q2 : ((n : Int) == (s.size : Int)) = true := by simp [hn]
      clear HK hn
      go_enter Try.func51, Try.ntmps51
      go_wp2_with (go_at_call 95; refine (K.out _).mono ?_; rintro e w1 ⟨v, rfl, hrow, hb⟩; have HR := Lib.hid hrow; have HB := Lib.hid hb; clear hrow hb)
      refine bodyPost_ret (v := .tuple #[v, .bool true]) (by simp [results, Try.results51, go_sem]) rfl ?_
      obtain ⟨p, c, e, _, _⟩ := RowT.shape HR.out
      exact ⟨v, rfl, fun ks' e => by injection e with e; subst e; exact HR.out, ⟨_, _, _, e⟩, HB.out⟩
    · have hr := HK.out
      rw [if_neg hn] at hr
      subst hr
      have q2 : ((n : Int) == (s.size : Int)) = false := by simp; omega
      clear HK hn
      go_enter Try.func51, Try.ntmps51
      go_wp2_with (go_at_call 95; refine (K.out _).mono ?_; rintro e w1 ⟨v, rfl, hrow, hb⟩; have HR := Lib.hid hrow; have HB := Lib.hid hb; clear hrow hb)
      refine bodyPost_ret (v := .tuple #[v, .bool false]) (by simp [results, Try.results51, go_sem]) rfl ?_
      obtain ⟨p, c, e, _, _⟩ := RowT.shape HR.out
      exact ⟨v, rfl, fun ks' e => (nomatch e), ⟨_, _, _, e⟩, HB.out⟩
  · have q : (s.size : Int) > 40 := by omega
    have HK : Hid (kindsL (bl s) = none) := Lib.hid (by unfold kindsL; rw [hlen, if_neg (fun h' => h h'.1)])
    clear h
    generalize kindsL (bl s) = r at *
    have hr := HK.out
    subst hr
    clear HK
    go_enter Try.func51, Try.ntmps51
    go_wp2
    refine bodyPost_ret (v := .tuple #[.slice none 0 0, .bool false]) (by simp [results, Try.results51, go_sem]) rfl ?_
    exact ⟨_, rfl, fun ks' e => (nomatch e), ⟨_, _, _, rfl⟩, Below.refl _ _⟩
end Go.Proofs.Ytefmlbckbhlgdaa
namespace Go.Proofs.Ytefmlbckbhlgdaa
open Go.RowKit
theorem counts_append {α : Type} : ∀ (a b : List (Tr α)), counts (a ++ b) = counts a + counts b
  | [], b => by simp [counts]
  | x :: a, b => by rw [List.cons_append, counts, counts, counts_append a b]; omega
theorem count_pos {α : Type} (t : Tr α) : 1 + counts t.kids = t.count := by
  cases t with
  | mk a ks => rw [Tr.count]
theorem counts_len {α : Type} : ∀ a : List (Tr α), a.length ≤ counts a
  | [] => Nat.le_refl _
  | x :: a => by have := counts_len a; have := count_pos x; rw [counts, List.length_cons]; omega
theorem counts_take {α : Type} (a : List (Tr α)) (m : Nat) : counts (a.take m) ≤ counts a := by
  have := counts_append (a.take m) (a.drop m)
  rw [List.take_append_drop] at this
  omega
theorem minIs_k (n : Nat) : ∃ m : Nat, min (n : Int) 1000 = (m : Int) ∧ m ≤ n ∧ m ≤ 1000 ∧ (n ≤ 1000 → m = n) := ⟨min n 1000, by omega, by omega, by omega, by omega⟩

/-- A queue of fields: a row of the call's own; what they hold lies in the memory of the beginning. -/
def QueueF (w wr : World) (v : Value) (xs : List (EV (Nat × List UInt8))) (ts : List Fd) : Prop :=
  xs.length = ts.length ∧ OwnE encFd.enc 64 wr w.heap.size v xs ∧ ∀ (i : Nat) (t : Fd) (x : EV (Nat × List UInt8)), ts[i]? = some t → xs[i]? = some x → TreeP encFd (fun _ => True) w t x

set_option maxRecDepth 100000 in
set_option maxHeartbeats 2000000 in
theorem fcount_any (v : Value) (l : List Fd) (w : World) (h : RowT encFd (fun _ => True) w v l) : Calls Try.prog 99 #[v] w fun e w' => e = .returned (.bool (decide (counts l ≤ 1000))) ∧ Below w.heap.size w w' := by
  obtain ⟨p, cap, rfl, s1, s2⟩ := RowT.shape h
  obtain ⟨m, hm1, hm2, hm3, hm4⟩ := minIs_k l.length
  obtain ⟨xs0, hl0, hr0, -, ht0⟩ := RowT.take h hm2
  have hlen : (l.take m).length = m := by simp; omega
  rw [hlen] at hl0
  have HTOT := Lib.hid (show counts (l.take m) ≤ counts l ∧ (l.length ≤ 1000 → counts (l.take m) = counts l) ∧ l.length ≤ counts l from ⟨counts_take l m, fun h => by rw [hm4 h, List.take_length], counts_len l⟩)
  have HT0 := Lib.hid ht0
  have HR0 := Lib.hid (RowE.below _ hr0 (bel1 w (.cells #[] 64)) (Nat.le_refl _))
  have O0 := Lib.hid (OwnE.start encFd.enc (T := 64) (w := w) (Nat.le_refl w.heap.size))
  have HLT := Lib.hid hlen
  generalize l.take m = T at *
  clear h hr0 ht0 hm4 hlen
  unfold maxLen at s2
  go_enter Try.func99, Try.ntmps99
  go_upto_region 2 with (at_builtin; refine wpList_append_rowE encFd.enc Try.underlying60 info_field rfl rfl _ _ rfl w.heap.size _ [] rfl O0.out _ xs0 rfl HR0.out (by unfold maxLen; simp; omega) (by simp; omega) (by simp) ?_)
  intro v1 w1 ho hb _ _
  have HQ0 := Lib.hid (show QueueF w w1 v1 xs0 T from ⟨by rw [hl0, HLT.out], ho, HT0.out⟩)
  have HB0 := Lib.hid (hb _ (bel1 w (.cells #[] 64)))
  have hxm : xs0.length ≤ 1000 := by omega
  have HC0 := Lib.hid (show counts T = 0 + counts (T.drop 0) by simp)
  clear ho hb HT0 HR0 O0
  obtain ⟨p1, c1, rfl, k1, k2⟩ := RowE.shape _ (OwnE.row _ HQ0.out.2.1)
  clear hl0 HLT
  go_wp2
  go_loopw [3, 4] (fun s3 s4 wr => ∃ (i : Nat) (xs : List (EV (Nat × List UInt8))) (ts : List Fd) (p : Option Addr) (c : Nat), i ≤ xs.length ∧ xs.length ≤ 1000 ∧ s3 = .slice p xs.length c ∧ s4 = .int .i64 i ∧ Hid (QueueF w wr (.slice p xs.length c) xs ts) ∧ Hid (counts T = i + counts (ts.drop i)) ∧ Hid (Below w.heap.size w wr)) (fun _ s _ => 1000 - (intOf s).toNat)
  case atStart => exact ⟨0, xs0, T, p1, c1, Nat.zero_le _, hxm, rfl, rfl, HQ0, HC0, HB0⟩
  case round =>
    clear HQ0 HC0 HB0 k1 k2 hxm
    obtain ⟨i, xs, ts, p2, c2, hi, hxl, rfl, rfl, hq, hc, hb⟩ := hrel
    have HQ := Lib.hid hq.out
    have HC := Lib.hid hc.out
    have HB := Lib.hid hb.out
    clear hq hc hb
    obtain ⟨-, k1, k2, -⟩ := RowE.sane (OwnE.row _ HQ.out.2.1)
    unfold maxLen at k2
    by_cases hlt : i < xs.length
    · have hql := HQ.out.1
      obtain ⟨x, hg⟩ : ∃ x, xs[i]? = some x := ⟨_, List.getElem?_eq_getElem hlt⟩
      obtain ⟨t, hgt⟩ : ∃ t, ts[i]? = some t := ⟨_, List.getElem?_eq_getElem (by omega)⟩
      obtain ⟨g, rfl, g1, g2, g3, g4, -⟩ := OwnE.at HQ.out.2.1 hg
      obtain ⟨e1, e2, e3, e4, ks, hk1, hk2, hk3⟩ := (HQ.out.2.2 i _ _ hgt hg).parts
      have hdr : ts.drop i = t :: ts.drop (i + 1) := by
        obtain ⟨h1, h2⟩ := List.getElem?_eq_some_iff.1 hgt
        rw [List.drop_eq_getElem_cons h1, h2]
      have hcc := HC.out
      rw [hdr, counts, ← count_pos] at hcc
      have hdl := counts_len (ts.drop (i + 1))
      rw [List.length_drop] at hdl
      have hkl := counts_len t.kids
      obtain ⟨⟨fn, fb⟩, pk, nk, ck⟩ := x
      simp only at e1 e2 e3 e4 hk2
      have c0 : wr.cell? ⟨g, i * 3 + 2, none⟩ = some (.slice pk nk ck) := g3 2 _ rfl
      clear g3 g4 hdr hg hgt e1
      by_cases hbig : nk > 1000 - xs.length
      · have q : (nk : Int) > 1000 - (xs.length : Int) := by omega
        have hno : Hid (decide (counts l ≤ 1000) = false) := Lib.hid (by have := HTOT.out.1; simp; omega)
        clear hcc hdl hkl hbig hk1 hk2 hk3 e2
        go_wp2
        go_ret
        exact ⟨by rw [hno.out]; rfl, HB.out⟩
      · have q : ¬ (nk : Int) > 1000 - (xs.length : Int) := by omega
        have HK := Lib.hid (RowE.below _ hk2 HB.out (Nat.le_refl _))
        have HKT := Lib.hid hk3
        have HCC := Lib.hid hcc
        have hsum : xs.length + nk ≤ 1000 := by omega
        have hk1' : ks.length = nk := by rw [hk1, ← e2]
        have HK1 := Lib.hid hk1
        have HQL := Lib.hid hql
        clear hcc hdl hkl hbig hk1 hk2 hk3 e2 hql
        go_upto_region 4 with (at_builtin; refine wpList_append_rowE encFd.enc Try.underlying60 info_field rfl rfl _ _ rfl w.heap.size _ xs rfl HQ.out.2.1 _ ks rfl HK.out (by unfold maxLen; omega) (by omega) HB.out.size ?_)
        intro v' w' ho hbb _ _
        obtain ⟨p3, c3, rfl, _, _⟩ := RowE.shape _ (OwnE.row _ ho)
        have HQ2 : Hid (QueueF w w' (.slice p3 (xs ++ ks).length c3) (xs ++ ks) (ts ++ t.kids)) := Lib.hid ⟨by rw [List.length_append, List.length_append, HQL.out, HK1.out], ho, fun j t' x' h1 h2 => by
          by_cases hj : j < xs.length
          · rw [List.getElem?_append_left hj] at h2
            rw [List.getElem?_append_left (by have := HQL.out; omega)] at h1
            exact HQ.out.2.2 j t' x' h1 h2
          · rw [List.getElem?_append_right (by omega)] at h2
            rw [List.getElem?_append_right (by have := HQL.out; omega)] at h1
            exact HKT.out _ _ _ (by rw [HQL.out]; exact h1) h2⟩
        have HC2 : Hid (counts T = (i + 1) + counts ((ts ++ t.kids).drop (i + 1))) := Lib.hid (by
          have := HCC.out
          have hh := HQL.out
          rw [List.drop_append_of_le_length (by omega), counts_append]
          omega)
        have HB2 := Lib.hid (hbb _ HB.out)
        have hl2 : (xs ++ ks).length ≤ 1000 := by rw [List.length_append]; omega
        have hl3 : i + 1 ≤ (xs ++ ks).length := by rw [List.length_append]; omega
        clear ho hbb HQ HC HB
        generalize xs ++ ks = xs2 at *
        generalize ts ++ t.kids = ts2 at *
        go_wp2
        exact ⟨⟨i + 1, xs2, ts2, p3, c3, hl3, hl2, rfl, by simp, HQ2, HC2, HB2⟩, by simp [intOf]; omega⟩
    · obtain rfl : i = xs.length := by omega
      have hdr : ts.drop xs.length = [] := List.drop_eq_nil_of_le (by have := HQ.out.1; omega)
      have hcc := HC.out
      rw [hdr, counts] at hcc
      have hv : Hid (decide (counts l ≤ 1000) = decide ((l.length : Int) ≤ 1000)) := Lib.hid (by
        obtain ⟨t1, t2, t3⟩ := HTOT.out
        by_cases hl : l.length ≤ 1000
        · have := t2 hl
          rw [decide_eq_true (by omega), decide_eq_true (by omega)]
        · rw [decide_eq_false (by omega), decide_eq_false (by omega)])
      clear hdr hcc
      go_wp2
      go_ret
      exact ⟨by rw [hv.out]; rfl, HB.out⟩
end Go.Proofs.Ytefmlbckbhlgdaa

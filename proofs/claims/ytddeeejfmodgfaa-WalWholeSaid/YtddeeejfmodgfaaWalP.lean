/- Wal: plain laws of logs. -/
import Derived.Test.YtddeeejfmodgfaaCrcP3
import Derived.Test.YtddeeejfmodgfaaStr
namespace Go.Proofs.Ytddeeejfmodgfaa

def framesOf (l : List (List UInt8)) : List UInt8 := (l.map frameL).flatten

theorem framesOf_cons (r : List UInt8) (l : List (List UInt8)) : framesOf (r :: l) = frameL r ++ framesOf l := by simp [framesOf]
theorem framesOf_snoc (l : List (List UInt8)) (r : List UInt8) : framesOf (l ++ [r]) = framesOf l ++ frameL r := by simp [framesOf]
theorem framesOf_append (l m : List (List UInt8)) : framesOf (l ++ m) = framesOf l ++ framesOf m := by simp [framesOf]

/-- What has been scanned is frames, one behind the other. -/
theorem scan_frames : ∀ (f : Nat) (s : List UInt8), s.length ≤ f → framesOf (scanL s).1 = s.take (scanL s).2 ∧ (scanL s).2 ≤ s.length ∧ ∀ r ∈ (scanL s).1, 1 ≤ r.length ∧ r.length ≤ 4000
  | 0, s, h => by
    obtain rfl : s = [] := List.eq_nil_of_length_eq_zero (by omega)
    exact ⟨rfl, Nat.le_refl _, fun r hr => by cases hr⟩
  | f + 1, s, h => by
    cases ho : oneL s with
    | none => rw [scanL_none ho]; exact ⟨rfl, Nat.zero_le _, fun r hr => by cases hr⟩
    | some n =>
      obtain ⟨h1, h2, h3, h4, _⟩ := oneL_some ho
      obtain ⟨i1, i2, i3⟩ := scan_frames f (s.drop (n + 6)) (by rw [List.length_drop]; omega)
      have hfr := oneL_frame h1.symm h2 h3 h4
      rw [ho] at hfr
      have hfe : frameL ((s.drop 2).take n) = s.take (n + 6) := by
        by_cases hc : frameL ((s.drop 2).take n) = s.take (n + 6)
        · exact hc
        · rw [if_neg hc] at hfr; cases hfr
      rw [scanL_some ho]
      refine ⟨?_, ?_, ?_⟩
      · rw [framesOf_cons, i1, hfe]
        exact (List.take_add).symm
      · rw [List.length_drop] at i2
        simp only
        omega
      · intro r hr
        rcases List.mem_cons.1 hr with rfl | hr
        · rw [List.length_take, List.length_drop]; omega
        · exact i3 r hr

/-- May these be records? -/
def RecsOk (ss : List ByteArray) : Prop := ∀ s ∈ ss, 1 ≤ s.size ∧ s.size ≤ 4000

theorem recsOk_len {ss : List ByteArray} (h : RecsOk ss) : ∀ r ∈ ss.map bl, 1 ≤ r.length ∧ r.length ≤ 4000 := by
  intro r hr
  obtain ⟨s, hs, rfl⟩ := List.mem_map.1 hr
  rw [bl_length]
  exact h s hs

theorem map_bl_inj : ∀ {l m : List ByteArray}, l.map bl = m.map bl → l = m
  | [], [], _ => rfl
  | [], _ :: _, h => by cases h
  | _ :: _, [], h => by cases h
  | x :: l, y :: m, h => by
    simp only [List.map_cons, List.cons.injEq] at h
    rw [bl_inj h.1, map_bl_inj h.2]

theorem map_mk_bl (l : List (List UInt8)) : (l.map mkS).map bl = l := by
  rw [List.map_map]
  conv => rhs; rw [← List.map_id l]
  exact List.map_congr_left fun x _ => bl_mk x

theorem map_bl_mk (l : List ByteArray) : (l.map bl).map mkS = l := by
  rw [List.map_map]
  conv => rhs; rw [← List.map_id l]
  exact List.map_congr_left fun x _ => mk_bl x

/-- A log's bytes are its records' frames just if scanning them gives the records, and all is scanned. -/
theorem scan_iff (b : ByteArray) (ss : List ByteArray) : (scanL (bl b) = (ss.map bl, b.size)) ↔ (RecsOk ss ∧ framesOf (ss.map bl) = bl b) := by
  constructor
  · intro h
    obtain ⟨h1, h2, h3⟩ := scan_frames _ (bl b) (Nat.le_refl _)
    rw [h] at h1 h3
    refine ⟨fun s hs => ?_, ?_⟩
    · have := h3 (bl s) (List.mem_map_of_mem hs)
      rwa [bl_length] at this
    · rw [h1]
      exact stake_all b
  · rintro ⟨h1, h2⟩
    have := scanL_frames (ss.map bl) [] (recsOk_len h1) (oneL_none_short (by decide))
    rw [List.append_nil] at this
    change scanL (framesOf (ss.map bl)) = (_, (framesOf (ss.map bl)).length) at this
    rw [h2, bl_length] at this
    exact this

/-- May a log be? -/
def LogOk (b : ByteArray) (n : Int) (ss : List ByteArray) : Prop := ((b.size : Int) ≤ 200000 ∧ 0 ≤ n ∧ n ≤ (b.size : Int)) ∧ RecsOk ss ∧ framesOf (ss.map bl) = bl b

theorem framesOf_le : ∀ (l : List (List UInt8)) (B : Nat), (∀ r ∈ l, r.length ≤ B) → (framesOf l).length ≤ (B + 6) * l.length
  | [], B, _ => by simp [framesOf]
  | r :: l, B, h => by
    have h1 := h r (List.mem_cons_self ..)
    have h2 := framesOf_le l B (fun x hx => h x (List.mem_cons_of_mem _ hx))
    rw [framesOf_cons, List.length_append, frameL_length, List.length_cons, Nat.mul_add]
    omega
end Go.Proofs.Ytddeeejfmodgfaa

/- Wal: plain laws of what a crash leaves. -/
import Derived.Test.YtddeeejfmodgfaaWalP
namespace Go.Proofs.Ytddeeejfmodgfaa

theorem framesOf_nil : framesOf [] = [] := rfl

theorem framesOf_take_le (rs : List (List UInt8)) (N M : Nat) (h : N ≤ M) : (framesOf (rs.take N)).length ≤ (framesOf (rs.take M)).length := by
  obtain ⟨d, rfl⟩ := Nat.le.dest h
  rw [List.take_add, framesOf_append, List.length_append]
  omega

/-- What is scanned of a beginning of frames. -/
theorem scan_prefix : ∀ (rs : List (List UInt8)) (q : Nat), (∀ r ∈ rs, 1 ≤ r.length ∧ r.length ≤ 4000) → q ≤ (framesOf rs).length →
    ∃ N, N ≤ rs.length ∧ scanL ((framesOf rs).take q) = (rs.take N, (framesOf (rs.take N)).length) ∧ (framesOf (rs.take N)).length ≤ q ∧ (N < rs.length → q < (framesOf (rs.take (N + 1))).length)
  | [], q, _, _ => ⟨0, Nat.le_refl _, by rw [framesOf_nil, List.take_nil]; rfl, Nat.zero_le _, fun h => absurd h (Nat.lt_irrefl _)⟩
  | r :: rs, q, h, hq => by
    have h1 := h r (List.mem_cons_self ..)
    rw [framesOf_cons] at hq ⊢
    by_cases hc : q < r.length + 6
    · refine ⟨0, Nat.zero_le _, ?_, Nat.zero_le _, fun _ => ?_⟩
      · rw [List.take_append_of_le_length (by rw [frameL_length]; omega), scanL_none (oneL_part r q h1.2 hc)]
        rfl
      · rw [List.take_succ_cons, List.take_zero, framesOf_cons, framesOf_nil, List.append_nil, frameL_length]
        exact hc
    · obtain ⟨q', rfl⟩ := Nat.le.dest (Nat.not_lt.1 hc)
      rw [List.length_append, frameL_length] at hq
      obtain ⟨N, i1, i2, i3, i4⟩ := scan_prefix rs q' (fun x hx => h x (List.mem_cons_of_mem _ hx)) (by omega)
      have e0 : (frameL r ++ framesOf rs).take (r.length + 6 + q') = frameL r ++ (framesOf rs).take q' := by
        rw [← frameL_length r, List.take_length_add_append]
      have e3 : ∀ u, ((frameL r ++ u).drop 2).take r.length = r := by
        intro u
        unfold frameL
        rw [List.append_assoc, List.append_assoc, List.drop_append_of_le_length (by rw [lowL_length]; exact Nat.le_refl _), List.drop_of_length_le (by rw [lowL_length]; exact Nat.le_refl _), List.nil_append,
          List.take_append_of_le_length (Nat.le_refl _), List.take_of_length_le (Nat.le_refl _)]
      have e4 : ∀ u, (frameL r ++ u).drop (r.length + 6) = u := by
        intro u
        rw [← frameL_length r, List.drop_left]
      refine ⟨N + 1, by simpa using i1, ?_, ?_, fun hN => ?_⟩
      · rw [e0, scanL_some (oneL_frameL r _ h1.1 h1.2), e3, e4, i2]
        simp only [List.take_succ_cons, framesOf_cons, List.length_append, frameL_length]
      · simp only [List.take_succ_cons, framesOf_cons, List.length_append, frameL_length]
        omega
      · have := i4 (by simpa using hN)
        simp only [List.take_succ_cons, framesOf_cons, List.length_append, frameL_length] at this ⊢
        omega

/-- What holds of a log whose first 's' records were made sure. -/
def SureLog (b : ByteArray) (n : Int) (ss : List ByteArray) (s : Nat) : Prop :=
  LogOk b n ss ∧ (∀ r ∈ ss, r.size ≤ 200) ∧ s ≤ ss.length ∧ n = (((framesOf ((ss.take s).map bl)).length : Nat) : Int)

theorem SureLog.start : SureLog ⟨#[]⟩ 0 [] 0 :=
  ⟨⟨⟨by decide, by decide, by decide⟩, fun s hs => (by cases hs), rfl⟩, fun s hs => (by cases hs), Nat.le_refl _, rfl⟩

theorem SureLog.size {b : ByteArray} {n : Int} {ss : List ByteArray} {s : Nat} (h : SureLog b n ss s) : b.size ≤ 206 * ss.length := by
  have h1 := framesOf_le (ss.map bl) 200 (fun r hr => by
    obtain ⟨x, hx, rfl⟩ := List.mem_map.1 hr
    rw [bl_length]
    exact h.2.1 x hx)
  rw [h.1.2.2, bl_length, List.length_map] at h1
  exact h1

theorem logOk_put {b : ByteArray} {n n' : Int} {ss : List ByteArray} {r : ByteArray} (h : LogOk b n ss) (hr : 1 ≤ r.size ∧ r.size ≤ 4000) (hb : b.size ≤ 190000) (h0 : 0 ≤ n') (h1 : n' ≤ ((b ++ mkS (frameL (bl r))).size : Int)) :
    LogOk (b ++ mkS (frameL (bl r))) n' (ss ++ [r]) := by
  have hz : (b ++ mkS (frameL (bl r))).size = b.size + (mkS (frameL (bl r))).size := ByteArray.size_append
  have zF : (mkS (frameL (bl r))).size ≤ 4006 := by rw [mk_size, frameL_length, bl_length]; omega
  obtain ⟨_, h4, h5⟩ := h
  refine ⟨⟨by omega, h0, h1⟩, fun s hs => ?_, ?_⟩
  · rcases List.mem_append.1 hs with hs | hs
    · exact h4 s hs
    · rw [List.mem_singleton.1 hs]; exact hr
  · rw [List.map_append, List.map_cons, List.map_nil, framesOf_snoc, h5, bl_append, bl_mk]

theorem mem_snoc_small {ss : List ByteArray} {r : ByteArray} (h : ∀ x ∈ ss, x.size ≤ 200) (hr : r.size ≤ 200) : ∀ x ∈ ss ++ [r], x.size ≤ 200 := by
  intro x hx
  rcases List.mem_append.1 hx with hx | hx
  · exact h x hx
  · rw [List.mem_singleton.1 hx]; exact hr

theorem SureLog.put {b : ByteArray} {n : Int} {ss : List ByteArray} {s : Nat} {r : ByteArray} (h : SureLog b n ss s) (h1 : 1 ≤ r.size) (h2 : r.size ≤ 200) (hb : b.size ≤ 190000) : SureLog (b ++ mkS (frameL (bl r))) n (ss ++ [r]) s := by
  have hz : (b ++ mkS (frameL (bl r))).size = b.size + (mkS (frameL (bl r))).size := ByteArray.size_append
  obtain ⟨g1, g2, g3, g4⟩ := h
  refine ⟨logOk_put g1 ⟨h1, by omega⟩ hb g1.1.2.1 (by have := g1.1.2.2; omega), mem_snoc_small g2 h2, by rw [List.length_append]; omega, ?_⟩
  rw [List.take_append_of_le_length g3]
  exact g4

theorem SureLog.put2 {b : ByteArray} {n : Int} {ss : List ByteArray} {s : Nat} {r : ByteArray} (h : SureLog b n ss s) (h1 : 1 ≤ r.size) (h2 : r.size ≤ 200) (hb : b.size ≤ 190000) :
    SureLog (b ++ mkS (frameL (bl r))) ((b ++ mkS (frameL (bl r))).size : Int) (ss ++ [r]) (ss.length + 1) := by
  obtain ⟨g1, g2, g3, g4⟩ := h
  have hl := logOk_put g1 ⟨h1, by omega⟩ hb (Int.natCast_nonneg _) (Int.le_refl _)
  refine ⟨hl, mem_snoc_small g2 h2, by rw [List.length_append]; exact Nat.le_refl _, ?_⟩
  have e : (ss ++ [r]).take (ss.length + 1) = ss ++ [r] := List.take_of_length_le (by rw [List.length_append]; exact Nat.le_refl _)
  rw [e, hl.2.2, bl_length]

/-- What a crash leaves of such a log, opened. -/
theorem SureLog.crash {b : ByteArray} {n : Int} {ss : List ByteArray} {s : Nat} (h : SureLog b n ss s) (q : Nat) (h1 : n ≤ (q : Int)) (h2 : q ≤ b.size) :
    ∃ N, s ≤ N ∧ N ≤ ss.length ∧ scanL (bl (b.extract 0 q)) = ((ss.take N).map bl, (framesOf ((ss.take N).map bl)).length) ∧ (framesOf ((ss.take N).map bl)).length ≤ q ∧
      (N < ss.length → q < (framesOf ((ss.take (N + 1)).map bl)).length) := by
  obtain ⟨g1, g2, g3, g4⟩ := h
  have hb : framesOf (ss.map bl) = bl b := g1.2.2
  obtain ⟨N, i1, i2, i3, i4⟩ := scan_prefix (ss.map bl) q (recsOk_len g1.2.1) (by rw [hb, bl_length]; exact h2)
  rw [List.length_map] at i1 i4
  rw [hb] at i2
  rw [← List.map_take] at i2 i3 i4
  refine ⟨N, ?_, i1, ?_, i3, i4⟩
  · rcases Nat.lt_or_ge N s with hlt | hge
    · exfalso
      have h5 := i4 (by omega)
      have h6 := framesOf_take_le (ss.map bl) (N + 1) s (by omega)
      rw [← List.map_take, ← List.map_take] at h6
      omega
    · exact hge
  · rw [bl_extract, List.drop_zero]
    exact i2
end Go.Proofs.Ytddeeejfmodgfaa

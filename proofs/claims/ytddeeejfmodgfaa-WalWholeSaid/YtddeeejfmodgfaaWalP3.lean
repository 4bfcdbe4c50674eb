/- Wal: plain laws of what is opened behind a crash. -/
import Derived.Test.YtddeeejfmodgfaaWalP2
namespace Go.Proofs.Ytddeeejfmodgfaa

theorem crash_q {n : Int} (more : Int) {z : Nat} (h0 : 0 ≤ n) (h1 : n ≤ (z : Int)) :
    ∃ q : Nat, n ≤ (q : Int) ∧ q ≤ z ∧ ((more ≤ 0 ∧ (q : Int) = n) ∨ (0 < more ∧ more ≤ (z : Int) - n ∧ (q : Int) = n + more) ∨ (0 < more ∧ (z : Int) - n < more ∧ (q : Int) = (z : Int))) := by
  by_cases c1 : more ≤ 0
  · exact ⟨n.toNat, by omega, by omega, .inl ⟨c1, by omega⟩⟩
  · by_cases c2 : more ≤ (z : Int) - n
    · exact ⟨(n + more).toNat, by omega, by omega, .inr (.inl ⟨by omega, c2, by omega⟩)⟩
    · exact ⟨z, by omega, Nat.le_refl _, .inr (.inr ⟨by omega, by omega, rfl⟩)⟩

theorem recsOk_take {ss : List ByteArray} (h : RecsOk ss) (N : Nat) : RecsOk (ss.take N) := fun s hs => h s (List.mem_of_mem_take hs)

theorem framesOf_take (ss : List ByteArray) (N : Nat) : ∃ t, framesOf (ss.map bl) = framesOf ((ss.take N).map bl) ++ t := by
  refine ⟨framesOf ((ss.drop N).map bl), ?_⟩
  rw [← framesOf_append, ← List.map_append, List.take_append_drop]

/-- What is opened behind a crash is a log. -/
theorem SureLog.opened {b : ByteArray} {n : Int} {ss : List ByteArray} {s : Nat} (h : SureLog b n ss s) (q N : Nat) (h2 : q ≤ b.size) (hF : (framesOf ((ss.take N).map bl)).length ≤ q) :
    LogOk ((b.extract 0 q).extract 0 (framesOf ((ss.take N).map bl)).length) ((framesOf ((ss.take N).map bl)).length : Nat) (ss.take N) ∧
      ((b.extract 0 q).extract 0 (framesOf ((ss.take N).map bl)).length).size = (framesOf ((ss.take N).map bl)).length := by
  obtain ⟨⟨⟨g1, g2, g3⟩, g4, g5⟩, _⟩ := h
  obtain ⟨t, ht⟩ := framesOf_take ss N
  have hz : ((b.extract 0 q).extract 0 (framesOf ((ss.take N).map bl)).length).size = (framesOf ((ss.take N).map bl)).length := by
    rw [ByteArray.size_extract, ByteArray.size_extract]; omega
  refine ⟨⟨⟨by omega, Int.natCast_nonneg _, by omega⟩, recsOk_take g4 N, ?_⟩, hz⟩
  rw [bl_extract, bl_extract, List.drop_zero, List.drop_zero, List.take_take, Nat.min_eq_left hF, ← g5, ht, List.take_left]

theorem getD_snoc {ss : List ByteArray} {r d : ByteArray} {m : Nat} (h : ss.length = m) : (ss ++ [r]).getD m d = r := by
  subst h
  simp [List.getD]
end Go.Proofs.Ytddeeejfmodgfaa

/- Rlp: items that come in. -/
import Derived.Test.YthipnbiilobjeaaRlpI
import Derived.Test.YthipnbiilobjeaaLawU
import Derived.Lib.SmallJoins
namespace Go.Proofs.Ythipnbiilobjeaa
open Go.RowKit Go.ChangeShapes Go.WideShapes Go.ChangeAt
set_option maxRecDepth 100000

mutual
/-- How many items and bytes there are in one. -/
def It.weight : It → Nat
  | .mk _ b ks => 1 + b.length + weights ks
def weights : List It → Nat
  | [] => 0
  | k :: ks => k.weight + weights ks
end

theorem headL_le (fr n : Nat) (h : n < 18446744073709551616) : (headL fr n).length ≤ 9 := by
  have : ∀ (k n : Nat), n < 256 ^ k → (dig n).length ≤ k := by
    intro k
    induction k with
    | zero => intro n h; rw [show n = 0 by simpa using h, dig_zero]; exact Nat.le_refl _
    | succ k ih =>
      intro n h
      rcases Nat.eq_zero_or_pos n with rfl | h0
      · rw [dig_zero]; simp
      · rw [dig_pos h0, List.length_append, List.length_singleton]
        have := ih (n / 256) (by rw [Nat.pow_succ] at h; omega)
        omega
  have := this 8 n (by omega)
  unfold headL
  split
  · simp
  · rw [List.length_cons]; omega

mutual
theorem write_le : ∀ x : It, x.weight ≤ 100000000 → x.write.length ≤ 9 * x.weight
  | .mk l b ks, h => by
    rw [It.weight] at h ⊢
    have hk := writes_le ks (by omega)
    rw [It.write]
    split
    · have := headL_le 192 (writes ks).length (by omega)
      rw [List.length_append]
      omega
    · split
      · omega
      · have := headL_le 128 b.length (by omega)
        rw [List.length_append]
        omega
theorem writes_le : ∀ ks : List It, weights ks ≤ 100000000 → (writes ks).length ≤ 9 * weights ks
  | [], _ => by simp [writes]
  | k :: ks, h => by
    rw [weights] at h ⊢
    have h1 := write_le k (by omega)
    have h2 := writes_le ks (by omega)
    rw [writes, List.length_append]
    omega
end

mutual
theorem size_le_weight : ∀ x : It, x.size ≤ x.weight
  | .mk l b ks => by
    have := sizes_le_weights ks
    rw [It.size, It.weight]
    omega
theorem sizes_le_weights : ∀ ks : List It, sizes ks ≤ weights ks
  | [] => Nat.le_refl _
  | k :: ks => by
    have h1 := size_le_weight k
    have h2 := sizes_le_weights ks
    rw [sizes, weights]
    omega
end

theorem exists_list {α : Type} {Q : Nat → α → Prop} : ∀ n : Nat, (∀ i, i < n → ∃ k, Q i k) → ∃ ks : List α, ks.length = n ∧ ∀ i k, ks[i]? = some k → Q i k
  | 0, _ => ⟨[], rfl, fun i k h => by simp at h⟩
  | n + 1, h => by
    obtain ⟨ks, h1, h2⟩ := exists_list n (fun i hi => h i (by omega))
    obtain ⟨k, hk⟩ := h n (by omega)
    refine ⟨ks ++ [k], by simp [h1], fun i k' hi => ?_⟩
    by_cases hlt : i < n
    · rw [List.getElem?_append_left (by omega)] at hi
      exact h2 i k' hi
    · have : i = n := by
        have := (List.getElem?_eq_some_iff.1 hi).1
        simp [h1] at this
        omega
      subst this
      rw [List.getElem?_append_right (by omega), h1, Nat.sub_self] at hi
      simp at hi
      subst hi
      exact hk

theorem kidsAt_mk {w : World} {a : Addr} : ∀ (ks : List It) (i : Nat), (∀ j k, ks[j]? = some k → ∃ v0 v1 v2, w.cell? (a.add ((i + j) * 3)) = some v0 ∧ w.cell? (a.add ((i + j) * 3 + 1)) = some v1 ∧ w.cell? (a.add ((i + j) * 3 + 2)) = some v2 ∧ ItemIs w k (.agg #[v0, v1, v2])) → KidsAt w ks a i
  | [], i, _ => by rw [KidsAt]; trivial
  | k :: ks, i, h => by
    rw [KidsAt]
    refine ⟨h 0 k rfl, kidsAt_mk ks (i + 1) fun j k' hj => ?_⟩
    have := h (j + 1) k' (by simpa using hj)
    rwa [show i + (j + 1) = i + 1 + j by omega] at this

theorem weights_le_bulk {H : Type} : ∀ (ks : List It) (l : List (DataW H)), ks.length = l.length → (∀ (i : Nat) (k : It) (d : DataW H), ks[i]? = some k → l[i]? = some d → k.weight ≤ Rows.uptoBulk d) → weights ks ≤ Rows.uptoBulkAll l
  | [], l, _, _ => Nat.zero_le _
  | k :: ks, [], h, _ => by simp at h
  | k :: ks, d :: l, h, hk => by
    have h1 := hk 0 k d rfl rfl
    have h2 := weights_le_bulk ks l (by simpa using h) (fun i k' d' e1 e2 => hk (i + 1) k' d' (by simpa using e1) (by simpa using e2))
    rw [weights, Rows.uptoBulkAll]
    omega

theorem item_trod {H : Type} {enc : TypeId × Value → H} {w : World} (fuel : Nat) : ∀ {cs : List Value} {x : DataW H × List MemPlace}, DataW.trod enc Try.prog w 0 (fun _ => true) true fuel 65 cs = some x →
    ∃ it c0 c1 c2, cs = [c0, c1, c2] ∧ ItemIs w it (.agg #[c0, c1, c2]) ∧ it.weight ≤ Rows.uptoBulk x.1 := by
  induction fuel using Nat.strongRecOn with
  | ind fuel ih =>
  intro cs x hf
  have h3 : Try.prog.cellsOf 65 = 3 := by kernel_rfl
  have hb1 : Try.prog.cellsOf 4 = 1 := by kernel_rfl
  have hs1 : Try.prog.cellsOf 9 = 1 := by kernel_rfl
  have hl1 : Try.prog.cellsOf 63 = 1 := by kernel_rfl
  obtain ⟨xs, n, rfl, rfl, hsz, hlen, hg⟩ := DataW.trod_struct Try.underlying65 hf
  match cs, hsz.trans h3 with
  | [c0, c1, c2], _ =>
    match xs, hlen with
    | [y0, y1, y2], _ =>
      have g0 : DataW.trod enc Try.prog w 0 (fun _ => true) true n 4 (([c0, c1, c2].drop 0).take (Try.prog.cellsOf 4)) = some y0 := hg 0 _ rfl
      have g1 : DataW.trod enc Try.prog w 0 (fun _ => true) true n 9 (([c0, c1, c2].drop 1).take (Try.prog.cellsOf 9)) = some y1 := hg 1 _ rfl
      have g2 : DataW.trod enc Try.prog w 0 (fun _ => true) true n 63 (([c0, c1, c2].drop 2).take (Try.prog.cellsOf 63)) = some y2 := hg 2 _ rfl
      rw [hb1] at g0
      rw [hs1] at g1
      rw [hl1] at g2
      replace g0 : DataW.trod enc Try.prog w 0 (fun _ => true) true n 4 [c0] = some y0 := g0
      replace g1 : DataW.trod enc Try.prog w 0 (fun _ => true) true n 9 [c1] = some y1 := g1
      replace g2 : DataW.trod enc Try.prog w 0 (fun _ => true) true n 63 [c2] = some y2 := g2
      obtain ⟨l, e0, e0'⟩ := DataW.trod_bool Try.underlying4 g0
      obtain ⟨b, e1, e1', wb⟩ := DataW.trod_string Try.underlying9 g1
      simp at e0 e1
      subst e0 e1
      have hml : b.data.toList.length ≤ 9223372036854775807 := by have e : b.data.toList.length = b.size := rfl; unfold maxLen at wb; omega
      rcases DataW.trod_slice Try.underlying63 g2 with ⟨e2, e2'⟩ | ⟨a, len, cap, elems, rest, n', rfl, e2, e2', _, hlc, hcm, hel, hget, _, _⟩
      · simp at e2
        subst e2
        refine ⟨.mk l b.data.toList [], .bool l, .string b, .slice none 0 0, rfl, ?_, ?_⟩
        · rw [ItemIs]
          exact ⟨_, rfl, hml, .inl ⟨rfl, rfl⟩⟩
        · subst e0' e1' e2'
          simp only [It.weight, weights, List.map_cons, List.map_nil, Rows.uptoBulk, Rows.uptoBulkAll]
          omega
      · simp at e2
        subst e2
        have hall : ∀ i, i < len → ∃ k : It, (∃ v0 v1 v2, w.cell? (a.add (i * 3)) = some v0 ∧ w.cell? (a.add (i * 3 + 1)) = some v1 ∧ w.cell? (a.add (i * 3 + 2)) = some v2 ∧ ItemIs w k (.agg #[v0, v1, v2])) ∧ ∀ d, elems[i]? = some d → k.weight ≤ Rows.uptoBulk d.1 := by
          intro i hi
          have hgi := hget i hi
          rw [h3, List.getElem?_eq_getElem (show i < elems.length by omega)] at hgi
          obtain ⟨cs', k1, k2⟩ := Option.bind_eq_some_iff.1 hgi
          obtain ⟨_, kl, kc⟩ := World.cells?_some k1
          obtain ⟨k, v0, v1, v2, rfl, ki, kw⟩ := ih n' (by omega) k2
          refine ⟨k, ⟨v0, v1, v2, ?_, ?_, ?_, ki⟩, fun d hd => ?_⟩
          · have := kc 0 (by omega)
            rw [Go.Deep.add_add] at this
            simpa using this
          · have := kc 1 (by omega)
            rw [Go.Deep.add_add] at this
            simpa using this
          · have := kc 2 (by omega)
            rw [Go.Deep.add_add] at this
            simpa using this
          · rw [List.getElem?_eq_getElem (show i < elems.length by omega)] at hd
            simp at hd
            subst hd
            exact kw
        obtain ⟨ks, hkl, hks⟩ := exists_list len hall
        refine ⟨.mk l b.data.toList ks, .bool l, .string b, .slice (some a) len cap, rfl, ?_, ?_⟩
        · rw [ItemIs]
          refine ⟨_, rfl, hml, .inr ⟨a, len, cap, rfl, hlc, by unfold maxLen at hcm; omega, hkl, kidsAt_mk ks 0 fun j k hj => ?_⟩⟩
          rw [Nat.zero_add]
          exact (hks j k hj).1
        · have hw := weights_le_bulk ks (elems.map (·.1)) (by simp [hkl, hel]) (fun i k d e1 e2 => by
            rw [List.getElem?_map] at e2
            obtain ⟨d', h1, rfl⟩ := Option.map_eq_some_iff.1 e2
            exact (hks i k e1).2 d' h1)
          subst e0' e1' e2'
          simp only [It.weight, List.map_cons, List.map_nil, Rows.uptoBulk, Rows.uptoBulkAll]
          omega

theorem item_open {H : Type} {enc : TypeId × Value → H} {w : World} {base : Nat} {v : Value} {d : DataW H} {p : List MemPlace} (hv : Value.okWide Try.prog w .any base 65 v) (h : DataW.Trod enc Try.prog w 0 (fun _ => true) true 65 v d p) (_ : ∀ x ∈ p, x.block < w.heap.size) :
    ∃ it, ItemIs w it v ∧ it.weight ≤ Rows.uptoBulk d := by
  obtain ⟨cs, rfl, _⟩ := okWide_struct Try.underlying65 hv
  obtain ⟨fuel, hf⟩ := h
  obtain ⟨it, c0, c1, c2, e, hi, hw⟩ := item_trod fuel hf
  obtain ⟨l⟩ := cs
  simp [Value.cells] at e
  subst e
  exact ⟨it, hi, hw⟩
end Go.Proofs.Ythipnbiilobjeaa

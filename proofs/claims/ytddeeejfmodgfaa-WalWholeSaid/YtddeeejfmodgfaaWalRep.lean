/- Wal: logs that come in. -/
import Derived.Test.YtddeeejfmodgfaaRep2
import Derived.Test.YtddeeejfmodgfaaWal2
import Derived.Lib.SmallJoins
namespace Go.Proofs.Ytddeeejfmodgfaa
open Go.RowKit Go.ChangeShapes Go.WideShapes Go.ChangeAt

theorem strRowZ_trod {P : Program} {H : Type} {enc : TypeId × Value → H} {w : World} {t e fuel : Nat} {cs : List Value} {x : DataW H × List MemPlace} (ht : P.underlying t = some (.slice e)) (he : P.underlying e = some .string) (hc : P.cellsOf e = 1)
    (h : DataW.trod enc P w 0 (fun _ => true) true fuel t cs = some x) : ∃ v ss, cs = [v] ∧ StrRowZ w v ss := by
  rcases open_strings ht he hc h with ⟨hcs, _⟩ | ⟨a, len, cap, ss, hcs, _, hl, hm, hz, _, hcell, hsz⟩
  · exact ⟨_, [], hcs, .inl ⟨rfl, rfl⟩, fun i => by simp [List.getD, maxLen]⟩
  · simp at hz
    refine ⟨_, ss.take len, hcs, .inr ⟨a, len, cap, rfl, hl, hm, by simp; omega, fun i hi => ?_⟩, fun i => ?_⟩
    · rw [hcell i (by omega)]
      simp [List.getD, List.getElem?_take, hi]
    · rw [List.getD]
      cases hg : (ss.take len)[i]? with
      | none => simp [maxLen]
      | some s => exact hsz s (List.mem_of_mem_take (List.mem_of_getElem? hg))

/-- A log as a value. -/
def LogRep (w : World) (v : Value) (x : ByteArray × Int × List ByteArray) : Prop := ∃ u, v = logV x.1 x.2.1 u ∧ StrRowZ w u x.2.2 ∧ x.1.size ≤ maxLen ∧ (Lit.int .i64 x.2.1).wf = true

theorem log_open {H : Type} {enc : TypeId × Value → H} {w : World} {base : Nat} {v : Value} {d : DataW H} {p : List MemPlace} (hv : Value.okWide Try.prog w .any base 49 v) (h : DataW.Trod enc Try.prog w 0 (fun _ => true) true 49 v d p) (_ : ∀ x ∈ p, x.block < w.heap.size) :
    ∃ x, LogRep w v x := by
  obtain ⟨cs, rfl, hsz⟩ := okWide_struct Try.underlying49 hv
  have h3 : Try.prog.cellsOf 49 = 3 := by kernel_rfl
  have h2 : Try.prog.cellsOf 47 = 2 := by kernel_rfl
  have hs1 : Try.prog.cellsOf 9 = 1 := by kernel_rfl
  have hi1 : Try.prog.cellsOf 3 = 1 := by kernel_rfl
  have hl1 : Try.prog.cellsOf 33 = 1 := by kernel_rfl
  obtain ⟨l⟩ := cs
  match l, hsz.trans h3 with
  | [c0, c1, c2], _ =>
    obtain ⟨fuel, hf⟩ := h
    obtain ⟨xs, n, _, _, _, hlen, hg⟩ := DataW.trod_struct Try.underlying49 hf
    match xs, hlen with
    | [y0, y1], _ =>
      have g0 : DataW.trod enc Try.prog w 0 (fun _ => true) true n 47 (([c0, c1, c2].drop 0).take (Try.prog.cellsOf 47)) = some y0 := hg 0 _ rfl
      have g1 : DataW.trod enc Try.prog w 0 (fun _ => true) true n 33 (([c0, c1, c2].drop 2).take (Try.prog.cellsOf 33)) = some y1 := hg 1 _ rfl
      rw [h2] at g0
      rw [hl1] at g1
      replace g0 : DataW.trod enc Try.prog w 0 (fun _ => true) true n 47 [c0, c1] = some y0 := g0
      replace g1 : DataW.trod enc Try.prog w 0 (fun _ => true) true n 33 [c2] = some y1 := g1
      obtain ⟨u, ss, hu, hss⟩ := strRowZ_trod Try.underlying33 Try.underlying9 hs1 g1
      simp only [List.cons.injEq, and_true] at hu
      subst hu
      obtain ⟨zs, m, _, _, _, hlen2, hg2⟩ := DataW.trod_struct Try.underlying47 g0
      match zs, hlen2 with
      | [z0, z1], _ =>
        have k0 : DataW.trod enc Try.prog w 0 (fun _ => true) true m 9 (([c0, c1].drop 0).take (Try.prog.cellsOf 9)) = some z0 := hg2 0 _ rfl
        have k1 : DataW.trod enc Try.prog w 0 (fun _ => true) true m 3 (([c0, c1].drop 1).take (Try.prog.cellsOf 3)) = some z1 := hg2 1 _ rfl
        rw [hs1] at k0
        rw [hi1] at k1
        replace k0 : DataW.trod enc Try.prog w 0 (fun _ => true) true m 9 [c0] = some z0 := k0
        replace k1 : DataW.trod enc Try.prog w 0 (fun _ => true) true m 3 [c1] = some z1 := k1
        obtain ⟨a, e0, _, wa⟩ := DataW.trod_string Try.underlying9 k0
        obtain ⟨n', e1, _, wn⟩ := DataW.trod_int Try.underlying3 k1
        simp at e0 e1
        subst e0 e1
        exact ⟨(a, n', ss), _, rfl, hss, wa, wn⟩
end Go.Proofs.Ytddeeejfmodgfaa

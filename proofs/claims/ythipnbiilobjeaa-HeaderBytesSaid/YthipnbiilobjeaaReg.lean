/- Regions that draw their order: a first operation that is forced (a call, say), then operations that only read, then a tail in one order. -/
import Derived.Test.YthipnbiilobjeaaRows
import Derived.StillTail
import Derived.StillTactics
import Derived.WalkKit
namespace Go.Proofs.Ythipnbiilobjeaa

theorem mix : Try.prog.follows .mixedOrders = true := by kernel_rfl

section
variable {P : Program} {ops : Array Oper} {Q : Exit → Act → World → Prop}

/-- The law of a region that draws its order and only reads ahead of its tail, in the world's own word. -/
theorem region_tail {id : Nat} {a : Act} {w : World} {l : List Oper} (n : Nat) (hm : P.follows .mixedOrders = true) (hB : Region.lexTailB .any l.toArray n = true)
    (h : wpStill P l.toArray w.drew (fun a' => wpList P l.toArray Q (l.drop n) a' w.drew) (l.take n) a) : (Code.region id l.toArray true).wp P Q a w :=
  wp_region_still_tail n hm hB h

def headTailB (md : Region.Mode) (ops : Array Oper) (n : Nat) : Bool :=
  Region.noSelect ops && decide (0 < n) && decide (n < ops.size) && Region.sinkB md ops n && Region.chainB md ops n && decide (Region.ready md ops (Array.replicate ops.size false) = [0]) &&
    Region.lexHead md ops (ops.size - n) (n - 1) 1 ((Array.replicate ops.size false).setIfInBounds 0 true)

theorem wpAny_forced {md : Region.Mode} {fuel k : Nat} {listed : Array Bool} {a : Act} {w : World} (hr : Region.ready md ops listed = [k])
    (h : wpOp P ops Q k (wpAny P md ops Q fuel (listed.setIfInBounds k true)) a w) : wpAny P md ops Q (fuel + 1) listed a w := by
  refine ⟨fun h0 => ?_, fun i hi => ?_⟩
  · rw [hr] at h0; cases h0
  · rw [hr] at hi
    obtain rfl : i = k := by simpa using hi
    exact h

theorem region_head_tail {id : Nat} {a : Act} {w : World} {o : Oper} {l : List Oper} (n : Nat) (hm : P.follows .mixedOrders = true) (hg : o.guard = none) (hB : headTailB .any (o :: l).toArray n = true)
    (h : ∀ K : Act → World → Prop, (∀ a' w', wpStill P (o :: l).toArray w' (fun a'' => wpList P (o :: l).toArray Q ((o :: l).drop n) a'' w') (((o :: l).take n).drop 1) a' → K a' w') → o.wp P a w.drew K Q) :
    (Code.region id (o :: l).toArray true).wp P Q a w := by
  simp only [headTailB, Bool.and_eq_true, decide_eq_true_eq] at hB
  obtain ⟨⟨⟨⟨⟨⟨hsel, hn0⟩, hn⟩, hs⟩, hc⟩, hready⟩, hlex⟩ := hB
  have hsz : (o :: l).toArray.size = l.length + 1 := by simp
  have hn' : n < l.length + 1 := by omega
  have inv0 : HeadInv .any (o :: l).toArray n (Array.replicate (o :: l).toArray.size false) :=
    ⟨by simp, fun j oj _ hl => (by rw [getD_replicate_false] at hl; cases hl), fun t _ ht => getD_in (by simpa using ht) (getD_replicate_false _ _)⟩
  have inv1 := inv0.set (i := 0) (by rw [hready]; simp) hn0
  have htl : (((o :: l).take n).drop 1).length = n - 1 := by rw [List.length_drop, List.length_take, List.length_cons]; omega
  refine wp_region_any hm ?_
  rw [show (o :: l).toArray.size = ((o :: l).toArray.size - 1) + 1 by simp]
  refine wpAny_forced (by simpa using hready) ?_
  have hK : ∀ a' w', wpStill P (o :: l).toArray w' (fun a'' => wpList P (o :: l).toArray Q ((o :: l).drop n) a'' w') (((o :: l).take n).drop 1) a' →
      wpAny P .any (o :: l).toArray Q ((o :: l).toArray.size - 1) ((Array.replicate (o :: l).toArray.size false).setIfInBounds 0 true) a' w' := by
    intro a' w' hst
    have H := wpAnyL_lex (md := .any) (g := (o :: l).toArray.size - n) hsel hs hc hn (((o :: l).take n).drop 1) 1 _ a' (fun j hj => by
      rw [htl] at hj
      rw [List.getElem?_drop, List.getElem?_take, if_pos (by omega)]
      simp) (by rw [htl]; omega) inv1 (by rw [htl]; exact hlex) hst
    have := wpAny_of_head (Q' := Q) (g := (o :: l).toArray.size - n) (fun listed a'' hL => by
      have hdl : ((o :: l).drop n).length = (o :: l).toArray.size - n := by rw [List.length_drop, List.length_cons, hsz]
      have := wpAny_of_seq (md := .any) (Q' := Q) ((o :: l).drop n) n listed a'' w' (fun j => by simp [List.getElem?_drop]) (by rw [hdl]; exact hL.1) hL.2
      rwa [hdl] at this) _ _ _ H
    rw [htl, show n - 1 + ((o :: l).toArray.size - n) = (o :: l).toArray.size - 1 by omega] at this
    exact this
  have hw := h _ hK
  unfold wpOp
  simp only [List.getElem?_toArray, List.getElem?_cons_zero, Region.wanted, hg, if_true]
  left
  exact hw
end

open Go.RowKit in
/-- A contract behind others: what was there at the beginning is still as it was. -/
theorem chainH {P : Program} {f : FuncId} {args : Array Value} {w W : World} {v : Ending} (h : Calls P f args w fun e w' => e = v ∧ Below w.heap.size w w') (hb : Hid (Below W.heap.size W w)) :
    Calls P f args w fun e w' => e = v ∧ Hid (Below W.heap.size W w') :=
  h.mono fun _ _ ⟨h1, h2⟩ => ⟨h1, hb.out.trans (h2.mono hb.out.size)⟩

open Go.RowKit in
theorem chainQ {P : Program} {f : FuncId} {args : Array Value} {w W : World} {v : Ending} (h : Calls P f args w fun e w' => e = v ∧ w = w') (hb : Hid (Below W.heap.size W w)) :
    Calls P f args w fun e w' => e = v ∧ Hid (Below W.heap.size W w') :=
  h.mono fun _ _ ⟨h1, h2⟩ => ⟨h1, h2 ▸ hb⟩
end Go.Proofs.Ythipnbiilobjeaa

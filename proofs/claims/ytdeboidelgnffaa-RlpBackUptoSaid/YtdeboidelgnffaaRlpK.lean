/- Rlp: a list that is being read: its state in memory from kid to kid; plain laws of the readers' loops. -/
import Derived.Test.YtdeboidelgnffaaRlpO
namespace Go.Proofs.Ytdeboidelgnffaa
open Go.RowKit

abbrev zeroO : Obj := .cells #[.bool false, .string ⟨#[]⟩, .slice none 0 0] 24

/-- Behind some kids: the result's cells, the list's cells, its kids. -/
structure KSt (w wr : World) (kv : Value) (ks : List It) (lv : List IV) : Prop where
  rowG : RowAt wr w.heap.size #[.bool false, .string ⟨#[]⟩, .slice none 0 0] 24
  rowX : RowAt wr (w.heap.size + 1) #[.bool true, .string ⟨#[]⟩, kv] 24
  own : OwnQ wr (w.heap.size + 2) kv lv
  kids : QP (fun b => w.heap.size + 2 ≤ b ∧ kv.ownBlock ≠ some b) wr ks lv
  below : Below w.heap.size w wr

theorem KSt.at4 {w wr w4 : World} {kv : Value} {ks : List It} {lv : List IV} (h : KSt w wr kv ks lv) (hb : Below wr.heap.size wr w4) :
    RowAt w4 w.heap.size #[.bool false, .string ⟨#[]⟩, .slice none 0 0] 24 ∧ RowAt w4 (w.heap.size + 1) #[.bool true, .string ⟨#[]⟩, kv] 24 ∧ OwnQ w4 (w.heap.size + 2) kv lv ∧ Below w.heap.size w w4 :=
  ⟨h.rowG.belowS hb, h.rowX.belowS hb, h.own.below hb (Nat.le_refl _), h.below.trans (hb.mono h.below.size)⟩

theorem KSt.ownlt {w wr : World} {kv : Value} {ks : List It} {lv : List IV} (h : KSt w wr kv ks lv) : ∀ g, kv.ownBlock = some g → w.heap.size + 2 ≤ g ∧ g < wr.heap.size := fun g hg => World.ownsRow.lt h.own g hg

theorem KSt.at5 {w wr w4 w5 : World} {kv : Value} {ks : List It} {lv : List IV} (h : KSt w wr kv ks lv) (hb : Below wr.heap.size wr w4) (hg : w4.grownBy w5 kv.ownBlock) :
    RowAt w5 (w.heap.size + 1) #[.bool true, .string ⟨#[]⟩, kv] 24 := by
  obtain ⟨_, h2, _, _⟩ := h.at4 hb
  refine h2.grown hg fun e => ?_
  have := (h.ownlt _ e.symm).1
  omega

theorem KSt.step {w wr w4 w5 : World} {kv kv' : Value} {ks : List It} {lv : List IV} {k : It} {y : IV} (h : KSt w wr kv ks lv) (hb : Below wr.heap.size wr w4) (hk : ItemP (fun b => wr.heap.size ≤ b) w4 k y.val)
    (own5 : OwnQ w5 (w.heap.size + 2) kv' (lv ++ [y])) (hg : w4.grownBy w5 kv.ownBlock) (hn : ∀ g, kv'.ownBlock = some g → kv.ownBlock = some g ∨ w4.heap.size ≤ g) :
    KSt w (w5.setCell ⟨w.heap.size + 1, 2, none⟩ kv') kv' (ks ++ [k]) (lv ++ [y]) := by
  obtain ⟨h1, h2, h3, h4⟩ := h.at4 hb
  have hlt := h.ownlt
  have hwr := h.rowX.lt
  have hown5 : ∀ g, kv'.ownBlock = some g → w.heap.size + 2 ≤ g := fun g e => (World.ownsRow.lt own5 g e).1
  refine ⟨?_, ?_, ?_, ?_, ?_⟩
  · refine (h1.grown hg fun e => ?_).other _ _ (by simp)
    have := (hlt _ e.symm).1
    omega
  · exact (h.at5 hb hg).set 2 kv' rfl
  · refine ownsRow_setCell_below own5 (by simp) kv'
  · have hset : ∀ (a : Addr) (v : Value), a.block ≠ w.heap.size + 1 → w5.cell? a = some v → (w5.setCell ⟨w.heap.size + 1, 2, none⟩ kv').cell? a = some v := fun a v hne hc => by
      rw [World.cell?_of_block (w := w5) (heap_setCell_other _ _ _ _ hne)]
      exact hc
    refine QP.snoc ?_ (QP.keep ?_ h.kids)
    · refine ItemP.keep ?_ _ _ hk
      intro a v hA hc
      have hal := block_lt_of_cell hc
      refine ⟨hset a v (by omega) (hg.cell hc fun e => ?_), by omega, fun e => ?_⟩
      · have := (hlt _ e.symm).2; omega
      · rcases hn _ e with e | e
        · have := (hlt _ e).2; omega
        · omega
    · intro a v hA hc
      have hal := block_lt_of_cell hc
      have hc4 : w4.cell? a = some v := by rw [hb.cell hal]; exact hc
      have h4s := hb.size
      refine ⟨hset a v (by omega) (hg.cell hc4 fun e => hA.2 e.symm), hA.1, fun e => ?_⟩
      rcases hn _ e with e | e
      · exact hA.2 e
      · omega
  · refine (h4.grown hg h4.size fun g e => ?_).setCell (p := ⟨w.heap.size + 1, 2, none⟩) (by simp) kv'
    have := (hlt _ e).1
    omega

/-- In the end the list is an item. -/
theorem KSt.done {w wr : World} {kv : Value} {ks : List It} {lv : List IV} (h : KSt w wr kv ks lv) (v0 v1 v2 : Value) :
    ItemP (fun b => w.heap.size ≤ b) (((wr.setCell ⟨w.heap.size, 0, none⟩ v0).setCell ⟨w.heap.size, 1, none⟩ v1).setCell ⟨w.heap.size, 2, none⟩ v2) (.mk true [] ks) (.agg #[.bool true, .string ⟨#[]⟩, kv]) ∧
    Below w.heap.size w (((wr.setCell ⟨w.heap.size, 0, none⟩ v0).setCell ⟨w.heap.size, 1, none⟩ v1).setCell ⟨w.heap.size, 2, none⟩ v2) := by
  have hi : ItemP (fun b => w.heap.size + 2 ≤ b) wr (.mk true [] ks) (.agg #[.bool true, .string ⟨#[]⟩, kv]) := OwnQ.item h.own (fun g e => (h.ownlt g e).1) (QP.keep (fun a v hA hc => ⟨hc, hA.1⟩) h.kids)
  refine ⟨ItemP.keep (fun a v hA hc => ⟨?_, by omega⟩) _ _ hi, ((h.below.setCell (p := ⟨w.heap.size, 0, none⟩) (Nat.le_refl _) _).setCell (p := ⟨w.heap.size, 1, none⟩) (Nat.le_refl _) _).setCell (p := ⟨w.heap.size, 2, none⟩) (Nat.le_refl _) _⟩
  have hne : a.block ≠ w.heap.size := by omega
  rw [World.cell?_of_block (heap_setCell_other _ _ _ _ hne), World.cell?_of_block (heap_setCell_other _ _ _ _ hne), World.cell?_of_block (heap_setCell_other _ _ _ _ hne)]
  exact hc

theorem read_less {f : Nat} {s : List UInt8} {x : It} {t : List UInt8} (h : readL f s = some (x, t)) : t.length < s.length := by
  obtain ⟨e, hp⟩ := (read_sound f).1 _ _ _ h
  have := write_pos x hp
  rw [e, List.length_append]
  omega

/-- Some kids have been read: what is left of the bytes. -/
structure KInv (n : Nat) (body rest : List UInt8) (ks : List It) (m : Nat) : Prop where
  enough : 2 * rest.length ≤ m
  most : m ≤ n
  few : ks.length + rest.length ≤ 4100
  same : kidsL n body = (match kidsL m rest with | none => none | some ks' => some (ks ++ ks'))

theorem KInv.start {n : Nat} {body : List UInt8} (h : 2 * body.length ≤ n) (h' : body.length ≤ 4100) : KInv n body body [] n :=
  ⟨h, Nat.le_refl _, by simpa using h', by cases kidsL n body <;> rfl⟩
theorem KInv.more {n m : Nat} {body rest : List UInt8} {ks : List It} (h : KInv n body rest ks m) (hr : rest ≠ []) : ∃ m', m = m' + 1 ∧ 2 * rest.length ≤ m' + 1 ∧ m' < n + 1 := by
  have h0 := List.length_pos_iff.2 hr
  have h1 := h.enough
  have h2 := h.most
  exact ⟨m - 1, by omega, by omega, by omega⟩
theorem KInv.stop {n m : Nat} {body rest : List UInt8} {ks : List It} (h : KInv n body rest ks (m + 1)) (hr : rest ≠ []) (hn : readL m rest = none) : kidsL n body = none := by
  rw [h.same]
  cases rest with
  | nil => exact absurd rfl hr
  | cons c t => rw [kidsL, hn]
theorem KInv.step {n m : Nat} {body rest t : List UInt8} {ks : List It} {k : It} (h : KInv n body rest ks (m + 1)) (hr : rest ≠ []) (hn : readL m rest = some (k, t)) : KInv n body t (ks ++ [k]) m := by
  have hl := read_less hn
  have h1 := h.enough
  have h2 := h.most
  have h3 := h.few
  refine ⟨by omega, by omega, by rw [List.length_append, List.length_singleton]; omega, ?_⟩
  rw [h.same]
  cases rest with
  | nil => exact absurd rfl hr
  | cons c t' =>
    rw [kidsL, hn]
    simp only
    cases kidsL m t <;> simp
theorem KInv.done {n m : Nat} {body : List UInt8} {ks : List It} (h : KInv n body [] ks m) : kidsL n body = some ks := by
  rw [h.same]
  have : kidsL m [] = some [] := by cases m <;> rfl
  rw [this]
  simp
end Go.Proofs.Ytdeboidelgnffaa

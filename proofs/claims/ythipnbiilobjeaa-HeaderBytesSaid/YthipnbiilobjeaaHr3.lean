/- Header: the record of a header. -/
import Derived.Test.YthipnbiilobjeaaHr2
import Derived.Test.YthipnbiilobjeaaHd2
namespace Go.Proofs.Ythipnbiilobjeaa
open Go.RowKit
set_option maxRecDepth 100000

/-- A seal's bytes. -/
def sealB (s : Sg) : ByteArray := if sigOk s = true then sigBytes s (UInt8.ofNat s.2.2.toNat) else ⟨#[]⟩
theorem sealB_any (s : Sg) (hs : s.ok) (w : World) : Calls Try.prog 49 #[sgV s] w fun e w' => e = .returned (.tuple #[.string (sealB s), .int .i64 (if sigOk s then 0 else 1)]) ∧ Below w.heap.size w w' := by
  unfold sealB
  cases e : sigOk s
  · exact sigBytes_no s hs e w
  · refine sigBytes_yes s hs e (UInt8.ofNat s.2.2.toNat) ?_ w
    rcases sigOk_v e with h | h <;> rw [h] <;> decide

abbrev nF (n : Nat) : Fd := .mk (n, []) []
abbrev lF (l : List Fd) : Fd := .mk (0, []) l
/-- A header's fields. -/
def hdF (h : Hd) : List Fd := [bF h.pa, nF h.ht.toNat, bF h.ro, bF h.tx, bF h.pr, bF h.va, lF (h.val.map bF), bF h.vo, nF (if h.ad = true then 1 else 0), nF h.rd.toNat, lF ((h.se.map sealB).map bF)]
def hform : List UInt8 := [104, 110, 104, 104, 97, 98, 42, 97, 98, 110, 110, 42, 115]
/-- A header's record. -/
def recL (h : Hd) : List UInt8 × Int := writeF hform (hdF h)
def HdNum (h : Hd) : Prop := (0 ≤ h.ht ∧ h.ht < 18446744073709551616) ∧ (0 ≤ h.rd ∧ h.rd < 18446744073709551616)

theorem fsOk_bF : ∀ l : List ByteArray, fsOk (l.map bF)
  | [] => trivial
  | s :: l => by rw [List.map_cons, fsOk]; exact ⟨by rw [fOk]; exact ⟨by simp, trivial⟩, fsOk_bF l⟩
theorem hdF_ok {h : Hd} (hn : HdNum h) : fsOk (hdF h) := by
  have h1 : h.ht.toNat < 18446744073709551616 := by have := hn.1; omega
  have h2 : h.rd.toNat < 18446744073709551616 := by have := hn.2; omega
  unfold hdF
  simp only [fsOk, fOk, fsOk_bF, h1, h2, and_true]
  have h3 : (if h.ad = true then 1 else 0) < 18446744073709551616 := by split <;> decide
  simp [h3]

theorem setCell_id {W : World} {k : Nat} {v : Value} {T : TypeId} (h : RowAt W k #[v] T) : W.setCell ⟨k, 0, none⟩ v = W := by
  have hk := h.lt
  unfold RowAt at h
  have : (W.setCell ⟨k, 0, none⟩ v).heap = W.heap := by
    apply Array.ext
    · simp
    · intro i h1 h2
      simp only [World.setCell, Array.getElem_modify]
      split
      · rename_i e
        subst e
        rw [Array.getElem?_eq_getElem hk] at h
        injection h with h
        rw [h]
        simp
      · rfl
  have e : W.setCell ⟨k, 0, none⟩ v = { W with heap := (W.setCell ⟨k, 0, none⟩ v).heap } := rfl
  rw [e, this]
theorem WrAt.start {W : World} {k : Nat} {T : TypeId} (h : RowAt W k #[.slice none 0 0] T) : WrAt W k W (.slice none 0 0) [] :=
  ⟨by rw [setCell_id h]; exact Below.refl _ _, OwnT.nil _ _, _, _, h⟩
theorem WrAt.other {W w : World} {k j : Nat} {v : Value} {ts : List Fd} {cs : Array Value} {T : TypeId} (h : WrAt W k w v ts) (R : RowAt W j cs T) (hne : j ≠ k) : RowAt w j cs T :=
  (R.other ⟨k, 0, none⟩ v hne).below h.1 R.lt
theorem WrAt.low {W w w0 : World} {k B : Nat} {v : Value} {ts : List Fd} (h : WrAt W k w v ts) (hb : Below B w0 W) (hB : B ≤ k) : Below B w0 w := by
  have hk := h.lt.1
  exact (hb.setCell (p := ⟨k, 0, none⟩) hB v).trans (h.1.mono (by omega))
theorem flat_mem {α : Type} (E : Enc α) : ∀ (l : List α) (c : Value), c ∈ flat E l → ∃ x, x ∈ l ∧ c ∈ E.cells x
  | [], c, h => by cases h
  | x :: l, c, h => by
    rw [flat] at h
    rcases List.mem_append.1 h with h | h
    · exact ⟨x, by simp, h⟩
    · obtain ⟨y, h1, h2⟩ := flat_mem E l c h
      exact ⟨y, by simp [h1], h2⟩
theorem WrAt.rowE {α : Type} {E : Enc α} {W w : World} {k : Nat} {v u : Value} {ts : List Fd} {l : List α} (h : WrAt W k w v ts) (hr : RowE E W u l) {T : TypeId} {y : Value} (hk : RowAt W k #[y] T) (hE : ∀ x, ∀ c ∈ E.cells x, c ≠ y) : RowE E w u l := by
  rcases hr with hr | ⟨a, cap, hv, h1, h2, hc⟩
  · exact .inl hr
  · refine .inr ⟨a, cap, hv, h1, h2, fun j c hj => ?_⟩
    have h0 := hc j c hj
    have hne : (a.add j) ≠ ⟨k, 0, none⟩ := fun e => by
      rw [e, hk.cell 0] at h0
      simp at h0
      obtain ⟨x, _, hx⟩ : ∃ x, x ∈ l ∧ c ∈ E.cells x := by
        exact flat_mem E _ _ (List.mem_of_getElem? hj)
      exact hE x c hx h0.symm
    rw [h.1.cell (block_lt_of_cell h0), World.cell?_setCell_other _ _ _ _ (fun e => hne e.symm)]
    exact h0
theorem encS_ne (x : ByteArray) (p : Option Addr) (n c : Nat) : ∀ u ∈ encS.cells x, u ≠ .slice p n c := fun u hu e => by
  have : u = .string x := by simpa [encS] using hu
  rw [this] at e
  cases e
end Go.Proofs.Ythipnbiilobjeaa

/- Headers: how they lie; may one be? -/
import Derived.Test.YthipnbiilobjeaaU7
import Derived.Test.YthipnbiilobjeaaVo9
namespace Go.Proofs.Ythipnbiilobjeaa
open Go.RowKit Go.Shelf

set_option maxRecDepth 100000 in
set_option maxHeartbeats 4000000 in
theorem addrs_any (v : Value) (l : List ByteArray) (w : World) (h : RowE encS w v l) (hl : l.length ≤ 1000000) :
    Calls Try.prog 48 #[v] w fun e w' => e = .returned (.bool (setL l)) ∧ w = w' := by
  obtain ⟨p, cap, rfl, h1, h2⟩ := h.shape
  have H := Lib.hid h.atS.2.2.2
  clear h
  go_enter Try.func48, Try.ntmps48
  go_wp2
  go_loop [7] (fun c => ∃ k : Nat, k ≤ l.length ∧ c = .int .i64 k ∧ Hid (SetTo l k)) (fun c => l.length - (intOf c).toNat)
  case atStart => exact ⟨0, Nat.zero_le _, rfl, Lib.hid ⟨fun _ _ h => by omega, fun _ _ _ h => by omega⟩⟩
  case round =>
    obtain ⟨k, hk, rfl, hto⟩ := hrel
    by_cases hlt : k < l.length
    · have hg := List.getElem?_eq_getElem hlt
      obtain ⟨ad, rfl, hc⟩ := H.out k l[k] hg
      generalize l[k] = x at *
      by_cases hs : x.size = 20
      · have hs' : ((x.size : Int) == 20) = true := by simp; omega
        by_cases hk0 : k = 0
        · have hnx := hto.out.step hg hs (fun j y e => by omega)
          subst hk0
          rw [Addr.add_zero'] at hc
          go_wp2_with fail
          refine ⟨⟨1, by omega, by simp, Lib.hid hnx⟩, by simp [intOf]; omega⟩
        · obtain ⟨i, hi⟩ : ∃ i, k = i + 1 := ⟨k - 1, by omega⟩
          have hg0 := List.getElem?_eq_getElem (show i < l.length by omega)
          obtain ⟨_, e, hc0⟩ := H.out i l[i] hg0
          cases e
          generalize l[i] = y at *
          have hgi : l[i + 1]? = some x := by rw [← hi]; exact hg
          have htn : ((k : Int) - 1).toNat = i := by omega
          have hp : (k : Int) > 0 := by omega
          have hp0 : 0 ≤ (k : Int) - 1 := by omega
          have hp1 : (k : Int) - 1 < l.length := by omega
          by_cases hy : ltS y x = true
          · have hnx := hto.out.step hg hs (fun j z e hz => by
              obtain rfl : j = i := by omega
              rw [hg0] at hz
              injection hz with e
              subst e
              exact hy)
            have hy1 := ltS_asym hy
            have hy2 := seq_false (ltS_ne hy).symm
            clear hi hgi hg hg0
            go_wp2_with fail
            refine ⟨⟨k + 1, by omega, by simp, Lib.hid hnx⟩, by simp [intOf]; omega⟩
          · have hno : setL l = false := setL_false (fun h => hy (h.2.1 i y x hg0 hgi))
            have hy' : ltS y x = false := by simpa using hy
            have hy1 : (ltS x y || (x.toList == y.toList)) = true := by rw [← ltS_not, hy']; rfl
            clear hi hgi hg hg0
            go_wp2_with fail
            go_ret
            exact ⟨rfl, rfl⟩
      · have hno : setL l = false := setL_false (fun h => hs (h.1 k x hg))
        go_wp2_with fail
        go_ret
        exact ⟨rfl, rfl⟩
    · obtain rfl : k = l.length := by omega
      by_cases h16 : 1 ≤ l.length ∧ l.length ≤ 16
      · have hyes : setL l = true := setL_true (hto.out.all h16.1 h16.2)
        have h16' := h16.1
        have h16'' : decide ((l.length : Int) ≤ 16) = true := by simp; omega
        go_wp2_with fail
        go_ret
        exact ⟨rfl, rfl⟩
      · have hno : setL l = false := setL_false (fun h => h16 h.2.2)
        go_wp2_with fail
        · go_ret
          have h16'' : decide ((l.length : Int) ≤ 16) = false := by simp; omega
          exact ⟨by rw [h16'']; rfl, rfl⟩
        · go_ret
          exact ⟨rfl, rfl⟩


def encG : Enc Sg := ⟨9, fun s => (sgc s).toList, fun _ => rfl, fun x u h => by simp at h; rcases h with rfl | rfl | rfl | rfl | rfl | rfl | rfl | rfl | rfl <;> rfl, by decide⟩

/-- A header. -/
structure Hd where
  pa : ByteArray
  ht : Int
  ro : ByteArray
  tx : ByteArray
  pr : ByteArray
  va : ByteArray
  val : List ByteArray
  vo : ByteArray
  ad : Bool
  rd : Int
  se : List Sg
/-- Its cells, with the two slices as they lie. -/
abbrev hdc (h : Hd) (sv gv : Value) : Array Value := #[.string h.pa, .int .u64 h.ht, .string h.ro, .string h.tx, .string h.pr, .string h.va, sv, .string h.vo, .bool h.ad, .int .u64 h.rd, gv]
abbrev hdV (h : Hd) (sv gv : Value) : Value := .agg (hdc h sv gv)
def HdAt (w : World) (h : Hd) (sv gv : Value) : Prop := RowE encS w sv h.val ∧ RowE encG w gv h.se ∧ ∀ s ∈ h.se, s.ok
theorem HdAt.below {w w' : World} {h : Hd} {sv gv : Value} (a : HdAt w h sv gv) (hb : Below w.heap.size w w') : HdAt w' h sv gv := ⟨a.1.below encS hb (Nat.le_refl _), a.2.1.below encG hb (Nat.le_refl _), a.2.2⟩

theorem RowAt.c11 {w : World} {k : Nat} {v0 v1 v2 v3 v4 v5 v6 v7 v8 v9 v10 : Value} {T : TypeId} (h : RowAt w k #[v0, v1, v2, v3, v4, v5, v6, v7, v8, v9, v10] T) : w.cell? ⟨k, 0, none⟩ = some v0 ∧ w.cell? ⟨k, 1, none⟩ = some v1 ∧ w.cell? ⟨k, 2, none⟩ = some v2 ∧ w.cell? ⟨k, 3, none⟩ = some v3 ∧
    w.cell? ⟨k, 4, none⟩ = some v4 ∧ w.cell? ⟨k, 5, none⟩ = some v5 ∧ w.cell? ⟨k, 6, none⟩ = some v6 ∧ w.cell? ⟨k, 7, none⟩ = some v7 ∧ w.cell? ⟨k, 8, none⟩ = some v8 ∧ w.cell? ⟨k, 9, none⟩ = some v9 ∧ w.cell? ⟨k, 10, none⟩ = some v10 :=
  ⟨h.cell 0, h.cell 1, h.cell 2, h.cell 3, h.cell 4, h.cell 5, h.cell 6, h.cell 7, h.cell 8, h.cell 9, h.cell 10⟩

theorem RowE.atG {w : World} {p : Option Addr} {n c : Nat} {l : List Sg} (h : RowE encG w (.slice p n c) l) : ∀ i s, l[i]? = some s → ∃ a, p = some a ∧ ∀ r u, (sgc s)[r]? = some u → w.cell? ((a.add (i * 9)).add r) = some u := by
  rcases h with ⟨_, rfl⟩ | ⟨a, cap, hv, h1, h2, hc⟩
  · intro i s hs; simp at hs
  · injection hv with e1 e2 e3
    subst e1 e2 e3
    refine fun i s hs => ⟨a, rfl, fun r u hr => ?_⟩
    have hr9 : r < 9 := (Array.getElem?_eq_some_iff.1 hr).1
    have := flat_get encG hs r hr9
    rw [Go.Deep.add_add]
    refine hc (i * 9 + r) u ?_
    rw [show i * 9 + r = i * encG.k + r from rfl, this]
    simpa [encG] using hr

def HdOk (h : Hd) : Prop := h.pa.size = 32 ∧ h.ro.size = 32 ∧ h.tx.size = 32 ∧ h.pr.size = 20 ∧ h.va.size ≤ 8 ∧ SetOk h.val ∧ h.se.length ≤ 16 ∧ (h.vo.size = 20 ∨ (h.vo = ⟨#[]⟩ ∧ h.ad = false)) ∧ ∀ s ∈ h.se, sigOk s = true
noncomputable def hdL (h : Hd) : Bool := @decide (HdOk h) (Classical.propDecidable _)
theorem hdL_true {h : Hd} (a : HdOk h) : hdL h = true := @decide_eq_true _ (Classical.propDecidable _) a
theorem hdL_false {h : Hd} (a : ¬ HdOk h) : hdL h = false := @decide_eq_false _ (Classical.propDecidable _) a

theorem sigB_any (s : Sg) (hs : s.ok) (w : World) : ∃ t : ByteArray, Calls Try.prog 49 #[sgV s] w fun e w' => e = .returned (.tuple #[.string t, .int .i64 (if sigOk s then 0 else 1)]) ∧ Below w.heap.size w w' := by
  cases e : sigOk s
  · exact ⟨_, sigBytes_no s hs e w⟩
  · refine ⟨_, sigBytes_yes s hs e (UInt8.ofNat s.2.2.toNat) ?_ w⟩
    rcases sigOk_v e with h | h <;> rw [h] <;> decide
end Go.Proofs.Ythipnbiilobjeaa

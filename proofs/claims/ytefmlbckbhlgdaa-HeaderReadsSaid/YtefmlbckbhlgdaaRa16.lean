/- Vote: whether validators and votes may be. Vote: whether validators and votes may be, the document's. Headers: how they lie; may one be? May a header be? Header: the record of a header. Header: the record of a header, walked. -/
import Derived.Deep.DeepCutAuto
import Derived.Test.YtefmlbckbhlgdaaRa14
import Derived.Test.YtefmlbckbhlgdaaRa15
namespace Go.Proofs.Ytefmlbckbhlgdaa
open Go.RowKit
def VotesOk (S : List ByteArray) (V : List Bal) : Prop := (∀ (j : Nat) x, V[j]? = some x → standsL S x = true ∧ wonL S V x = false) ∧ (∀ (j : Nat) x y, V[j]? = some x → V[j + 1]? = some y → ltB x y = true)
def VotesTo (S : List ByteArray) (V : List Bal) (k : Nat) : Prop := (∀ (j : Nat) x, j < k → V[j]? = some x → standsL S x = true ∧ wonL S V x = false) ∧ (∀ (j : Nat) x y, j + 1 < k → V[j]? = some x → V[j + 1]? = some y → ltB x y = true)
theorem VotesTo.zero (S : List ByteArray) (V : List Bal) : VotesTo S V 0 := ⟨fun _ _ h => by omega, fun _ _ _ h => by omega⟩
theorem VotesTo.step {S : List ByteArray} {V : List Bal} {k : Nat} {x : Bal} (h : VotesTo S V k) (hx : V[k]? = some x) (hs : standsL S x = true) (hw : wonL S V x = false) (hp : ∀ j y, k = j + 1 → V[j]? = some y → ltB y x = true) : VotesTo S V (k + 1) := by
  refine ⟨fun j y hj hy => ?_, fun j y z hj hy hz => ?_⟩
  · by_cases e : j = k
    · subst e; rw [hx] at hy; injection hy with e; subst e; exact ⟨hs, hw⟩
    · exact h.1 j y (by omega) hy
  · by_cases e : j + 1 = k
    · subst e; rw [hx] at hz; injection hz with e; subst e; exact hp j y rfl hy
    · exact h.2 j y z (by omega) hy hz
theorem VotesTo.all {S : List ByteArray} {V : List Bal} (h : VotesTo S V V.length) : VotesOk S V :=
  ⟨fun j x hx => h.1 j x (List.getElem?_eq_some_iff.1 hx).1 hx, fun j x y hx hy => h.2 j x y (List.getElem?_eq_some_iff.1 hy).1 hx hy⟩

/-- The cells of an element, in every later world. -/
theorem RowE.later {W : World} {p : Option Addr} {n c : Nat} {l : List Bal} (h : RowE encB W (.slice p n c) l) {i : Nat} {b : Bal} (hb : l[i]? = some b) : ∃ a, p = some a ∧
    (∀ u : Later W, u.w.cell? (a.add (i * 3)) = some (.string b.1)) ∧ (∀ u : Later W, u.w.cell? ⟨(a.add (i * 3)).block, (a.add (i * 3)).off + 1, none⟩ = some (.string b.2.1)) ∧ (∀ u : Later W, u.w.cell? ⟨(a.add (i * 3)).block, (a.add (i * 3)).off + 2, none⟩ = some (.bool b.2.2)) := by
  obtain ⟨_, _, _, H⟩ := h.atB
  obtain ⟨a, ha, c0, c1, c2⟩ := H i b hb
  refine ⟨a, ha, fun u => ?_, fun u => ?_, fun u => ?_⟩
  · rw [u.below.cell (block_lt_of_cell c0)]; exact c0
  · rw [u.below.cell (block_lt_of_cell c1)]; exact c1
  · rw [u.below.cell (block_lt_of_cell c2)]; exact c2

end Go.Proofs.Ytefmlbckbhlgdaa
namespace Go.Proofs.Ytefmlbckbhlgdaa
open Go.RowKit
end Go.Proofs.Ytefmlbckbhlgdaa
namespace Go.Proofs.Ytefmlbckbhlgdaa
open Go.RowKit Go.Shelf
set_option maxRecDepth 100000 in
set_option maxHeartbeats 4000000 in
theorem addrs_any (v : Value) (l : List ByteArray) (w : World) (h : RowE encS w v l) (hl : l.length ≤ 1000000) :
    Calls Try.prog 57 #[v] w fun e w' => e = .returned (.bool (setL l)) ∧ w = w' := by
  obtain ⟨p, cap, rfl, h1, h2⟩ := h.shape
  have H := Lib.hid h.atS.2.2.2
  clear h
  go_enter Try.func57, Try.ntmps57
  go_wp2
  go_loop [7] (fun c => ∃ k : Nat, k ≤ l.length ∧ c = .int .i64 k ∧ Hid (SetTo l k)) (fun c => l.length - (intOf c).toNat)
  case atStart => exact ⟨0, Nat.zero_le _, rfl, Lib.hid ⟨fun _ _ h => by omega, fun _ _ _ h => by omega⟩⟩
  case round =>
    obtain ⟨k, hk, rfl, hto⟩ := hrel
    by_cases hlt : k < l.length
    · have hg := List.getElem?_eq_getElem hlt
      obtain ⟨ad, rfl, hc⟩ := H.out k l[k] hg
      generalize l[k] = x at *
      by_cases hs : x.size = 20
      · have hs' : ((x.size : Int) == 20) = true := by simp; omega
        by_cases hk0 : k = 0
        · have hnx := hto.out.step hg hs (fun j y e => by omega)
          subst hk0
          rw [Addr.add_zero'] at hc
          go_wp2_with fail
          refine ⟨⟨1, by omega, by simp, Lib.hid hnx⟩, by simp [intOf]; omega⟩
        · obtain ⟨i, hi⟩ : ∃ i, k = i + 1 := ⟨k - 1, by omega⟩
          have hg0 := List.getElem?_eq_getElem (show i < l.length by omega)
          obtain ⟨_, e, hc0⟩ := H.out i l[i] hg0
          cases e
          generalize l[i] = y at *
          have hgi : l[i + 1]? = some x := by rw [← hi]; exact hg
          have htn : ((k : Int) - 1).toNat = i := by omega
          have hp : (k : Int) > 0 := by omega
          have hp0 : 0 ≤ (k : Int) - 1 := by omega
          have hp1 : (k : Int) - 1 < l.length := by omega
          by_cases hy : ltS y x = true
          · have hnx := hto.out.step hg hs (fun j z e hz => by
              obtain rfl : j = i := by omega
              rw [hg0] at hz
              injection hz with e
              subst e
              exact hy)
            have hy1 := ltS_asym hy
            have hy2 := seq_false (ltS_ne hy).symm
            clear hi hgi hg hg0
            go_wp2_with fail
            refine ⟨⟨k + 1, by omega, by simp, Lib.hid hnx⟩, by simp [intOf]; omega⟩
          · have hno : setL l = false := setL_false (fun h => hy (h.2.1 i y x hg0 hgi))
            have hy' : ltS y x = false := by simpa using hy
            have hy1 : (ltS x y || (x.toList == y.toList)) = true := by rw [← ltS_not, hy']; rfl
            clear hi hgi hg hg0
            go_wp2_with fail
            go_ret
            exact ⟨rfl, rfl⟩
      · have hno : setL l = false := setL_false (fun h => hs (h.1 k x hg))
        go_wp2_with fail
        go_ret
        exact ⟨rfl, rfl⟩
    · obtain rfl : k = l.length := by omega
      by_cases h16 : 1 ≤ l.length ∧ l.length ≤ 16
      · have hyes : setL l = true := setL_true (hto.out.all h16.1 h16.2)
        have h16' := h16.1
        have h16'' : decide ((l.length : Int) ≤ 16) = true := by simp; omega
        go_wp2_with fail
        go_ret
        exact ⟨rfl, rfl⟩
      · have hno : setL l = false := setL_false (fun h => h16 h.2.2)
        go_wp2_with fail
        · go_ret
          have h16'' : decide ((l.length : Int) ≤ 16) = false := by simp; omega
          exact ⟨by rw [h16'']; rfl, rfl⟩
        · go_ret
          exact ⟨rfl, rfl⟩


def encG : Enc Sg := ⟨9, fun s => (sgc s).toList, fun _ => rfl, fun x u h => by simp at h; rcases h with rfl | rfl | rfl | rfl | rfl | rfl | rfl | rfl | rfl <;> rfl, by decide⟩

/-- A header. -/
structure Hd where
  pa : ByteArray
  ht : Int
  ro : ByteArray
  tx : ByteArray
  pr : ByteArray
  va : ByteArray
  val : List ByteArray
  vo : ByteArray
  ad : Bool
  rd : Int
  se : List Sg
/-- Its cells, with the two slices as they lie. -/
abbrev hdc (h : Hd) (sv gv : Value) : Array Value := #[.string h.pa, .int .u64 h.ht, .string h.ro, .string h.tx, .string h.pr, .string h.va, sv, .string h.vo, .bool h.ad, .int .u64 h.rd, gv]
abbrev hdV (h : Hd) (sv gv : Value) : Value := .agg (hdc h sv gv)
def HdAt (w : World) (h : Hd) (sv gv : Value) : Prop := RowE encS w sv h.val ∧ RowE encG w gv h.se ∧ ∀ s ∈ h.se, s.ok
theorem HdAt.below {w w' : World} {h : Hd} {sv gv : Value} (a : HdAt w h sv gv) (hb : Below w.heap.size w w') : HdAt w' h sv gv := ⟨a.1.below encS hb (Nat.le_refl _), a.2.1.below encG hb (Nat.le_refl _), a.2.2⟩

theorem RowAt.c11 {w : World} {k : Nat} {v0 v1 v2 v3 v4 v5 v6 v7 v8 v9 v10 : Value} {T : TypeId} (h : RowAt w k #[v0, v1, v2, v3, v4, v5, v6, v7, v8, v9, v10] T) : w.cell? ⟨k, 0, none⟩ = some v0 ∧ w.cell? ⟨k, 1, none⟩ = some v1 ∧ w.cell? ⟨k, 2, none⟩ = some v2 ∧ w.cell? ⟨k, 3, none⟩ = some v3 ∧
    w.cell? ⟨k, 4, none⟩ = some v4 ∧ w.cell? ⟨k, 5, none⟩ = some v5 ∧ w.cell? ⟨k, 6, none⟩ = some v6 ∧ w.cell? ⟨k, 7, none⟩ = some v7 ∧ w.cell? ⟨k, 8, none⟩ = some v8 ∧ w.cell? ⟨k, 9, none⟩ = some v9 ∧ w.cell? ⟨k, 10, none⟩ = some v10 :=
  ⟨h.cell 0, h.cell 1, h.cell 2, h.cell 3, h.cell 4, h.cell 5, h.cell 6, h.cell 7, h.cell 8, h.cell 9, h.cell 10⟩

theorem RowE.atG {w : World} {p : Option Addr} {n c : Nat} {l : List Sg} (h : RowE encG w (.slice p n c) l) : ∀ i s, l[i]? = some s → ∃ a, p = some a ∧ ∀ r u, (sgc s)[r]? = some u → w.cell? ((a.add (i * 9)).add r) = some u := by
  rcases h with ⟨_, rfl⟩ | ⟨a, cap, hv, h1, h2, hc⟩
  · intro i s hs; simp at hs
  · injection hv with e1 e2 e3
    subst e1 e2 e3
    refine fun i s hs => ⟨a, rfl, fun r u hr => ?_⟩
    have hr9 : r < 9 := (Array.getElem?_eq_some_iff.1 hr).1
    have := flat_get encG hs r hr9
    rw [Go.Deep.add_add]
    refine hc (i * 9 + r) u ?_
    rw [show i * 9 + r = i * encG.k + r from rfl, this]
    simpa [encG] using hr

def HdOk (h : Hd) : Prop := h.pa.size = 32 ∧ h.ro.size = 32 ∧ h.tx.size = 32 ∧ h.pr.size = 20 ∧ h.va.size ≤ 8 ∧ SetOk h.val ∧ h.se.length ≤ 16 ∧ (h.vo.size = 20 ∨ (h.vo = ⟨#[]⟩ ∧ h.ad = false)) ∧ ∀ s ∈ h.se, sigOk s = true
noncomputable def hdL (h : Hd) : Bool := @decide (HdOk h) (Classical.propDecidable _)
theorem hdL_true {h : Hd} (a : HdOk h) : hdL h = true := @decide_eq_true _ (Classical.propDecidable _) a
theorem hdL_false {h : Hd} (a : ¬ HdOk h) : hdL h = false := @decide_eq_false _ (Classical.propDecidable _) a

theorem sigB_any (s : Sg) (hs : s.ok) (w : World) : ∃ t : ByteArray, Calls Try.prog 58 #[sgV s] w fun e w' => e = .returned (.tuple #[.string t, .int .i64 (if sigOk s then 0 else 1)]) ∧ Below w.heap.size w w' := by
  cases e : sigOk s
  · exact ⟨_, sigBytes_no s hs e w⟩
  · refine ⟨_, sigBytes_yes s hs e (UInt8.ofNat s.2.2.toNat) ?_ w⟩
    rcases sigOk_v e with h | h <;> rw [h] <;> decide
end Go.Proofs.Ytefmlbckbhlgdaa
namespace Go.Proofs.Ytefmlbckbhlgdaa
open Go.RowKit Go.Shelf
set_option maxRecDepth 100000 in
set_option maxHeartbeats 4000000 in
theorem hRight_any (h : Hd) (sv gv : Value) (w : World) (hh : HdAt w h sv gv) (hl : h.val.length ≤ 1000000) : Calls Try.prog 26 #[hdV h sv gv] w fun e w' => e = .returned (.bool (hdL h)) ∧ Below w.heap.size w w' := by
  obtain ⟨hS, hG, hok⟩ := hh
  have KA := fun W hW => addrs_any sv h.val W hW hl
  have HS := Lib.hid hS
  have HG := Lib.hid hG
  have HOK := Lib.hid hok
  obtain ⟨pS, cS, rfl, s1, s2⟩ := RowE.shape encS hS
  obtain ⟨pG, cG, rfl, s3, s4⟩ := RowE.shape encG hG
  clear hS hG hok
  have hyes : HdOk h → hdL h = true := hdL_true
  have hno : ¬ HdOk h → hdL h = false := hdL_false
  have hdef : HdOk h ↔ (h.pa.size = 32 ∧ h.ro.size = 32 ∧ h.tx.size = 32 ∧ h.pr.size = 20 ∧ h.va.size ≤ 8 ∧ SetOk h.val ∧ h.se.length ≤ 16 ∧ (h.vo.size = 20 ∨ (h.vo = ⟨#[]⟩ ∧ h.ad = false)) ∧ ∀ s ∈ h.se, sigOk s = true) := Iff.rfl
  generalize hdL h = R at *
  generalize HdOk h = Ok at *
  obtain ⟨pa, ht, ro, tx, pr, va, val, vo, ad, rd, se⟩ := h
  simp only at hdef s1 s3 hl HS HG KA HOK
  unfold maxLen at s2 s4
  have R1 := Lib.hid ((RowAt.new w (hdc ⟨pa, ht, ro, tx, pr, va, val, vo, ad, rd, se⟩ (.slice pS val.length cS) (.slice pG se.length cG)) 26).alloc (.cells #[.string pa, .string ro, .string tx] 9))
  have R2 := Lib.hid (RowAt.new' (w.alloc (.cells (hdc ⟨pa, ht, ro, tx, pr, va, val, vo, ad, rd, se⟩ (.slice pS val.length cS) (.slice pG se.length cG)) 26)) #[.string pa, .string ro, .string tx] 9 (k := w.heap.size + 1) (by simp))
  have HB := Lib.hid (belowA2 w (.cells (hdc ⟨pa, ht, ro, tx, pr, va, val, vo, ad, rd, se⟩ (.slice pS val.length cS) (.slice pG se.length cG)) 26) (.cells #[.string pa, .string ro, .string tx] 9))
  have HY := Lib.hid hyes
  have HN := Lib.hid hno
  have HD := Lib.hid hdef
  clear hyes hno hdef
  go_enter Try.func26, Try.ntmps26
  go_upto_region 2 with (fail)
  generalize (w.alloc (.cells (hdc ⟨pa, ht, ro, tx, pr, va, val, vo, ad, rd, se⟩ (.slice pS val.length cS) (.slice pG se.length cG)) 26)).alloc (.cells #[.string pa, .string ro, .string tx] 9) = W at *
  obtain ⟨x0, x1, x2, x3, x4, x5, x6, x7, x8, x9, x10⟩ := R1.out.c11
  obtain ⟨y0, y1, y2, yf0, yf1, yf2⟩ := R2.out.c3
  simp only at x0 x1 x2 x3 x4 x5 x6 x7 x8 x9 x10
  go_loop [17] (fun c => ∃ k : Nat, k ≤ 3 ∧ c = .int .i64 k ∧ Hid ((1 ≤ k → pa.size = 32) ∧ (2 ≤ k → ro.size = 32) ∧ (3 ≤ k → tx.size = 32))) (fun c => 3 - (intOf c).toNat)
  case atStart => exact ⟨0, by omega, rfl, Lib.hid ⟨by omega, by omega, by omega⟩⟩
  case round =>
    obtain ⟨k, hk, rfl, hto⟩ := hrel
    have hk4 : k = 0 ∨ k = 1 ∨ k = 2 ∨ k = 3 := by omega
    rcases hk4 with rfl | rfl | rfl | rfl
    · by_cases e : pa.size = 32
      · have q : ((pa.size : Int) != 32) = false := by simp [e]
        have hn := Lib.hid (show (1 ≤ 1 → pa.size = 32) ∧ (2 ≤ 1 → ro.size = 32) ∧ (3 ≤ 1 → tx.size = 32) from ⟨fun _ => e, by omega, by omega⟩)
        clear e
        go_wp2_with fail
        exact ⟨⟨1, by omega, by simp, hn⟩, by simp [intOf]⟩
      · have hr := HN.out (fun h => e (HD.out.1 h).1)
        have q : ((pa.size : Int) != 32) = true := by simp; omega
        clear e
        go_wp2_with fail
        go_ret
        exact ⟨by first | rfl | (rw [hr]; rfl), HB.out⟩
    · by_cases e : ro.size = 32
      · have q : ((ro.size : Int) != 32) = false := by simp [e]
        have hn := Lib.hid (show (1 ≤ 2 → pa.size = 32) ∧ (2 ≤ 2 → ro.size = 32) ∧ (3 ≤ 2 → tx.size = 32) from ⟨fun _ => hto.out.1 (by omega), fun _ => e, by omega⟩)
        clear e
        go_wp2_with fail
        exact ⟨⟨2, by omega, by simp, hn⟩, by simp [intOf]⟩
      · have hr := HN.out (fun h => e (HD.out.1 h).2.1)
        have q : ((ro.size : Int) != 32) = true := by simp; omega
        clear e
        go_wp2_with fail
        go_ret
        exact ⟨by first | rfl | (rw [hr]; rfl), HB.out⟩
    · by_cases e : tx.size = 32
      · have q : ((tx.size : Int) != 32) = false := by simp [e]
        have hn := Lib.hid (show (1 ≤ 3 → pa.size = 32) ∧ (2 ≤ 3 → ro.size = 32) ∧ (3 ≤ 3 → tx.size = 32) from ⟨fun _ => hto.out.1 (by omega), fun _ => hto.out.2.1 (by omega), fun _ => e⟩)
        clear e
        go_wp2_with fail
        exact ⟨⟨3, by omega, by simp, hn⟩, by simp [intOf]⟩
      · have hr := HN.out (fun h => e (HD.out.1 h).2.2.1)
        have q : ((tx.size : Int) != 32) = true := by simp; omega
        clear e
        go_wp2_with fail
        go_ret
        exact ⟨by first | rfl | (rw [hr]; rfl), HB.out⟩
    · have z1 := hto.out.1 (by omega)
      have z2 := hto.out.2.1 (by omega)
      have z3 := hto.out.2.2 (by omega)
      have HD2 := Lib.hid (show Ok ↔ (pr.size = 20 ∧ va.size ≤ 8 ∧ SetOk val ∧ se.length ≤ 16 ∧ (vo.size = 20 ∨ (vo = ⟨#[]⟩ ∧ ad = false)) ∧ ∀ s ∈ se, sigOk s = true) from ⟨fun h => (HD.out.1 h).2.2.2, fun h => HD.out.2 ⟨z1, z2, z3, h⟩⟩)
      have KA2 := KA W (RowE.below encS HS.out HB.out (Nat.le_refl _))
      clear z1 z2 z3 HD hto y0 y1 y2 yf0 yf1 yf2 R2 KA
      by_cases c1 : pr.size = 20
      · have q1 : ((pr.size : Int) != 20) = false := by simp [c1]
        by_cases c2 : va.size ≤ 8
        · have q2 : ¬ (va.size : Int) > 8 := by omega
          by_cases c3 : SetOk val
          · rw [setL_true c3] at KA2
            have KA2 := Lib.hid KA2
            by_cases c4 : se.length ≤ 16
            · have q4 : ¬ (se.length : Int) > 16 := by omega
              have HD3 := Lib.hid (show Ok ↔ ((vo.size = 20 ∨ (vo = ⟨#[]⟩ ∧ ad = false)) ∧ ∀ s ∈ se, sigOk s = true) from ⟨fun h => (HD2.out.1 h).2.2.2.2, fun h => HD2.out.2 ⟨c1, c2, c3, c4, h⟩⟩)
              clear c1 c2 c3 c4 HD2
              go_upto_region 9 with (go_at_call 57; refine KA2.out.mono ?_; rintro e w1 ⟨rfl, rfl⟩)
              have hvo : (vo.size = 20 ∨ (vo = ⟨#[]⟩ ∧ ad = false)) ∨ (¬ vo.size = 20 ∧ ¬ vo = ⟨#[]⟩) ∨ (vo = ⟨#[]⟩ ∧ ad = true) := by
                by_cases e1 : vo.size = 20
                · exact .inl (.inl e1)
                · by_cases e2 : vo = ⟨#[]⟩
                  · cases ad
                    · exact .inl (.inr ⟨e2, rfl⟩)
                    · exact .inr (.inr ⟨e2, rfl⟩)
                  · exact .inr (.inl ⟨e1, e2⟩)
              rcases hvo with hvo | ⟨e1, e2⟩ | ⟨rfl, rfl⟩
              · have HD4 := Lib.hid (show Ok ↔ ∀ s ∈ se, sigOk s = true from ⟨fun h => (HD3.out.1 h).2, fun h => HD3.out.2 ⟨hvo, h⟩⟩)
                clear HD3
                go_cut [59] (fun t wr => t = .bool false ∧ W = wr)
                case first =>
                  rcases hvo with e | ⟨rfl, rfl⟩
                  · have q5 : ((vo.size : Int) != 20) = false := by simp [e]
                    clear e
                    go_wp2_with (fail)
                    go_meet
                    case rel => exact ⟨rfl, rfl⟩
                  · go_wp2_with (fail)
                    go_meet
                    case rel => exact ⟨rfl, rfl⟩
                case rest =>
                  obtain ⟨rfl, rfl⟩ := hcut
                  clear hvo KA2
                  go_upto_region 12 with (fail)
                  clear x0 x1 x2 x3 x4 x5 x6 x7 x8 x9 x10
                  go_loopw [63] (fun c wr => ∃ k : Nat, k ≤ se.length ∧ c = .int .i64 k ∧ Hid (∀ j s, j < k → se[j]? = some s → sigOk s = true) ∧ Hid (Below w.heap.size w wr)) (fun c _ => se.length - (intOf c).toNat)
                  case atStart => exact ⟨0, Nat.zero_le _, rfl, Lib.hid (fun _ _ h => by omega), HB⟩
                  case round =>
                    obtain ⟨k, hk, rfl, hto, hb⟩ := hrel
                    clear HB
                    have HB := Lib.hid hb.out
                    clear hb
                    by_cases hlt : k < se.length
                    · have hg := List.getElem?_eq_getElem hlt
                      obtain ⟨a, rfl, hc⟩ := (RowE.below encG HG.out HB.out (Nat.le_refl _)).atG k se[k] hg
                      have hsk := HOK.out se[k] (List.getElem_mem hlt)
                      generalize se[k] = s at *
                      obtain ⟨⟨r0, r1, r2, r3⟩, ⟨s0, s1, s2, s3⟩, v⟩ := s
                      have c0 := hc 0 _ rfl
                      have c1 := hc 1 _ rfl
                      have c2 := hc 2 _ rfl
                      have c3 := hc 3 _ rfl
                      have c4 := hc 4 _ rfl
                      have c5 := hc 5 _ rfl
                      have c6 := hc 6 _ rfl
                      have c7 := hc 7 _ rfl
                      have c8 := hc 8 _ rfl
                      clear hc
                      replace c0 : wr.cell? (a.add (k * 9)) = _ := c0
                      replace c1 : wr.cell? ⟨(a.add (k * 9)).block, (a.add (k * 9)).off + 1, none⟩ = _ := c1
                      replace c2 : wr.cell? ⟨(a.add (k * 9)).block, (a.add (k * 9)).off + 2, none⟩ = _ := c2
                      replace c3 : wr.cell? ⟨(a.add (k * 9)).block, (a.add (k * 9)).off + 3, none⟩ = _ := c3
                      replace c4 : wr.cell? ⟨(a.add (k * 9)).block, (a.add (k * 9)).off + 4, none⟩ = _ := c4
                      replace c5 : wr.cell? ⟨(a.add (k * 9)).block, (a.add (k * 9)).off + 5, none⟩ = _ := c5
                      replace c6 : wr.cell? ⟨(a.add (k * 9)).block, (a.add (k * 9)).off + 6, none⟩ = _ := c6
                      replace c7 : wr.cell? ⟨(a.add (k * 9)).block, (a.add (k * 9)).off + 7, none⟩ = _ := c7
                      replace c8 : wr.cell? ⟨(a.add (k * 9)).block, (a.add (k * 9)).off + 8, none⟩ = _ := c8
                      try simp only at c0 c1 c2 c3 c4 c5 c6 c7 c8
                      obtain ⟨t, KS⟩ := sigB_any ((r0, r1, r2, r3), (s0, s1, s2, s3), v) hsk (wr.alloc (.cells (sgc ((r0, r1, r2, r3), (s0, s1, s2, s3), v)) 68))
                      have HB2 := Lib.hid (HB.out.alloc HB.out.size (.cells (sgc ((r0, r1, r2, r3), (s0, s1, s2, s3), v)) 68))
                      cases e : sigOk ((r0, r1, r2, r3), (s0, s1, s2, s3), v)
                      · rw [e] at KS
                        have KS := Lib.hid KS
                        have hr := HN.out (fun h => by have := HD4.out.1 h _ (List.mem_of_getElem? hg); rw [e] at this; cases this)
                        clear hg e hsk
                        go_wp2_with (go_at_call 58; refine KS.out.mono ?_; rintro e w3 ⟨rfl, hb⟩; have HB3 := Lib.hid (HB2.out.trans (hb.mono HB2.out.size)); clear hb)
                        go_ret
                        exact ⟨by first | rfl | (rw [hr]; rfl), HB3.out⟩
                      · rw [e] at KS
                        have KS := Lib.hid KS
                        have hn : Hid (∀ j s, j < k + 1 → se[j]? = some s → sigOk s = true) := Lib.hid (fun j s hj hs => by
                          by_cases e2 : j = k
                          · subst e2; rw [hg] at hs; injection hs with hs; subst hs; exact e
                          · exact hto.out j s (by omega) hs)
                        clear hg e hsk hto
                        go_wp2_with (go_at_call 58; refine KS.out.mono ?_; rintro e w3 ⟨rfl, hb⟩; have HB3 := Lib.hid (HB2.out.trans (hb.mono HB2.out.size)); clear hb)
                        exact ⟨⟨k + 1, by omega, by simp, hn, HB3⟩, by simp [intOf]; omega⟩
                    · obtain rfl : k = se.length := by omega
                      have hr := HY.out (HD4.out.2 (fun s hs => by
                        obtain ⟨j, hj⟩ := List.getElem?_of_mem hs
                        exact hto.out j s (List.getElem?_eq_some_iff.1 hj).1 hj))
                      clear hto
                      go_wp2_with (fail)
                      go_ret
                      exact ⟨by first | rfl | (rw [hr]; rfl), HB.out⟩
              · have hr := HN.out (fun h => by rcases (HD3.out.1 h).1 with h | ⟨h, _⟩; exact e1 h; exact e2 h)
                have q5 : ((vo.size : Int) != 20) = true := by simp; omega
                have q6 : ¬ vo.toList = [] := by simpa using seq_false e2
                clear e1 e2 HD3
                cases ad
                all_goals
                  go_wp2_with (fail)
                  go_ret
                  exact ⟨by first | rfl | (rw [hr]; rfl), HB.out⟩
              · have hr := HN.out (fun h => by rcases (HD3.out.1 h).1 with h | ⟨_, h⟩; cases h; cases h)
                clear HD3
                go_wp2_with (fail)
                go_ret
                exact ⟨by first | rfl | (rw [hr]; rfl), HB.out⟩
            · have hr := HN.out (fun h => c4 (HD2.out.1 h).2.2.2.1)
              have q4 : (se.length : Int) > 16 := by omega
              clear c1 c2 c3 c4 HD2
              go_wp2_with (go_at_call 57; refine KA2.out.mono ?_; rintro e w1 ⟨rfl, rfl⟩)
              go_ret
              exact ⟨by first | rfl | (rw [hr]; rfl), HB.out⟩
          · have hr := HN.out (fun h => c3 (HD2.out.1 h).2.2.1)
            rw [setL_false c3] at KA2
            have KA2 := Lib.hid KA2
            clear c1 c2 c3 HD2
            go_wp2_with (go_at_call 57; refine KA2.out.mono ?_; rintro e w1 ⟨rfl, rfl⟩)
            go_ret
            exact ⟨by first | rfl | (rw [hr]; rfl), HB.out⟩
        · have hr := HN.out (fun h => c2 (HD2.out.1 h).2.1)
          have q2 : (va.size : Int) > 8 := by omega
          clear c1 c2 HD2 KA2
          go_wp2_with (fail)
          go_ret
          exact ⟨by first | rfl | (rw [hr]; rfl), HB.out⟩
      · have hr := HN.out (fun h => c1 (HD2.out.1 h).1)
        have q1 : ((pr.size : Int) != 20) = true := by simp; omega
        clear c1 HD2 KA2
        go_wp2_with (fail)
        go_ret
        exact ⟨by first | rfl | (rw [hr]; rfl), HB.out⟩
end Go.Proofs.Ytefmlbckbhlgdaa
namespace Go.Proofs.Ytefmlbckbhlgdaa
open Go.RowKit
set_option maxRecDepth 100000
/-- A seal's bytes. -/
def sealB (s : Sg) : ByteArray := if sigOk s = true then sigBytes s (UInt8.ofNat s.2.2.toNat) else ⟨#[]⟩
theorem sealB_any (s : Sg) (hs : s.ok) (w : World) : Calls Try.prog 58 #[sgV s] w fun e w' => e = .returned (.tuple #[.string (sealB s), .int .i64 (if sigOk s then 0 else 1)]) ∧ Below w.heap.size w w' := by
  unfold sealB
  cases e : sigOk s
  · exact sigBytes_no s hs e w
  · refine sigBytes_yes s hs e (UInt8.ofNat s.2.2.toNat) ?_ w
    rcases sigOk_v e with h | h <;> rw [h] <;> decide

abbrev nF (n : Nat) : Fd := .mk (n, []) []
abbrev lF (l : List Fd) : Fd := .mk (0, []) l
/-- A header's fields. -/
def hdF (h : Hd) : List Fd := [bF h.pa, nF h.ht.toNat, bF h.ro, bF h.tx, bF h.pr, bF h.va, lF (h.val.map bF), bF h.vo, nF (if h.ad = true then 1 else 0), nF h.rd.toNat, lF ((h.se.map sealB).map bF)]
def hform : List UInt8 := [104, 110, 104, 104, 97, 98, 42, 97, 98, 110, 110, 42, 115]
/-- A header's record. -/
def recL (h : Hd) : List UInt8 × Int := writeF hform (hdF h)
def HdNum (h : Hd) : Prop := (0 ≤ h.ht ∧ h.ht < 18446744073709551616) ∧ (0 ≤ h.rd ∧ h.rd < 18446744073709551616)

theorem fsOk_bF : ∀ l : List ByteArray, fsOk (l.map bF)
  | [] => trivial
  | s :: l => by rw [List.map_cons, fsOk]; exact ⟨by rw [fOk]; exact ⟨by simp, trivial⟩, fsOk_bF l⟩
theorem hdF_ok {h : Hd} (hn : HdNum h) : fsOk (hdF h) := by
  have h1 : h.ht.toNat < 18446744073709551616 := by have := hn.1; omega
  have h2 : h.rd.toNat < 18446744073709551616 := by have := hn.2; omega
  unfold hdF
  simp only [fsOk, fOk, fsOk_bF, h1, h2, and_true]
  have h3 : (if h.ad = true then 1 else 0) < 18446744073709551616 := by split <;> decide
  simp [h3]

theorem setCell_id {W : World} {k : Nat} {v : Value} {T : TypeId} (h : RowAt W k #[v] T) : W.setCell ⟨k, 0, none⟩ v = W := by
  have hk := h.lt
  unfold RowAt at h
  have : (W.setCell ⟨k, 0, none⟩ v).heap = W.heap := by
    apply Array.ext
    · simp
    · intro i h1 h2
      simp only [World.setCell, Array.getElem_modify]
      split
      · rename_i e
        subst e
        rw [Array.getElem?_eq_getElem hk] at h
        injection h with h
        rw [h]
        simp
      · rfl
  have e : W.setCell ⟨k, 0, none⟩ v = { W with heap := (W.setCell ⟨k, 0, none⟩ v).heap } := rfl
  rw [e, this]
theorem WrAt.start {W : World} {k : Nat} {T : TypeId} (h : RowAt W k #[.slice none 0 0] T) : WrAt W k W (.slice none 0 0) [] :=
  ⟨by rw [setCell_id h]; exact Below.refl _ _, OwnT.nil _ _, _, _, h⟩
theorem WrAt.other {W w : World} {k j : Nat} {v : Value} {ts : List Fd} {cs : Array Value} {T : TypeId} (h : WrAt W k w v ts) (R : RowAt W j cs T) (hne : j ≠ k) : RowAt w j cs T :=
  (R.other ⟨k, 0, none⟩ v hne).below h.1 R.lt
theorem WrAt.low {W w w0 : World} {k B : Nat} {v : Value} {ts : List Fd} (h : WrAt W k w v ts) (hb : Below B w0 W) (hB : B ≤ k) : Below B w0 w := by
  have hk := h.lt.1
  exact (hb.setCell (p := ⟨k, 0, none⟩) hB v).trans (h.1.mono (by omega))
theorem flat_mem {α : Type} (E : Enc α) : ∀ (l : List α) (c : Value), c ∈ flat E l → ∃ x, x ∈ l ∧ c ∈ E.cells x
  | [], c, h => by cases h
  | x :: l, c, h => by
    rw [flat] at h
    rcases List.mem_append.1 h with h | h
    · exact ⟨x, by simp, h⟩
    · obtain ⟨y, h1, h2⟩ := flat_mem E l c h
      exact ⟨y, by simp [h1], h2⟩
theorem WrAt.rowE {α : Type} {E : Enc α} {W w : World} {k : Nat} {v u : Value} {ts : List Fd} {l : List α} (h : WrAt W k w v ts) (hr : RowE E W u l) {T : TypeId} {y : Value} (hk : RowAt W k #[y] T) (hE : ∀ x, ∀ c ∈ E.cells x, c ≠ y) : RowE E w u l := by
  rcases hr with hr | ⟨a, cap, hv, h1, h2, hc⟩
  · exact .inl hr
  · refine .inr ⟨a, cap, hv, h1, h2, fun j c hj => ?_⟩
    have h0 := hc j c hj
    have hne : (a.add j) ≠ ⟨k, 0, none⟩ := fun e => by
      rw [e, hk.cell 0] at h0
      simp at h0
      obtain ⟨x, _, hx⟩ : ∃ x, x ∈ l ∧ c ∈ E.cells x := by
        exact flat_mem E _ _ (List.mem_of_getElem? hj)
      exact hE x c hx h0.symm
    rw [h.1.cell (block_lt_of_cell h0), World.cell?_setCell_other _ _ _ _ (fun e => hne e.symm)]
    exact h0
theorem encS_ne (x : ByteArray) (p : Option Addr) (n c : Nat) : ∀ u ∈ encS.cells x, u ≠ .slice p n c := fun u hu e => by
  have : u = .string x := by simpa [encS] using hu
  rw [this] at e
  cases e
end Go.Proofs.Ytefmlbckbhlgdaa
namespace Go.Proofs.Ytefmlbckbhlgdaa
open Go.RowKit Go.Shelf
set_option maxRecDepth 100000
set_option maxHeartbeats 2000000 in
theorem record_any (h : Hd) (sv gv : Value) (w : World) (hh : HdAt w h sv gv) (hn : HdNum h) (hl : h.val.length ≤ 1000) (hl2 : h.se.length ≤ 1000) : Calls Try.prog 67 #[hdV h sv gv] w fun e w' => e = .returned (.tuple #[.string (mkS (recL h).1), .int .i64 (recL h).2]) ∧ Below w.heap.size w w' := by
  obtain ⟨hS, hG, hok⟩ := hh
  have HS := Lib.hid hS
  have HG := Lib.hid hG
  have HOK := Lib.hid hok
  obtain ⟨pS, cS, rfl, s1, s2⟩ := RowE.shape encS hS
  obtain ⟨pG, cG, rfl, s3, s4⟩ := RowE.shape encG hG
  have KW : Hid (∀ W v, RowT encFd (fun _ => True) W v (hdF h) → Calls Try.prog 54 #[.string ⟨#[104, 110, 104, 104, 97, 98, 42, 97, 98, 110, 110, 42, 115]⟩, v] W fun e w' => e = .returned (.tuple #[.string (mkS (recL h).1), .int .i64 (recL h).2]) ∧ Below W.heap.size W w') := Lib.hid (fun W v hr => fwrite_any ⟨#[104, 110, 104, 104, 97, 98, 42, 97, 98, 110, 110, 42, 115]⟩ v (hdF h) W (by show (13 : Nat) ≤ 1000; omega) (hdF_ok hn) hr)
  have HF : Hid (hdF h = [bF h.pa, nF h.ht.toNat, bF h.ro, bF h.tx, bF h.pr, bF h.va, lF (h.val.map bF), bF h.vo, nF (if h.ad = true then 1 else 0), nF h.rd.toNat, lF ((h.se.map sealB).map bF)]) := Lib.hid rfl
  generalize recL h = r at *
  generalize hdF h = F at *
  clear hS hG hok
  obtain ⟨pa, ht, ro, tx, pr, va, val, vo, ad, rd, se⟩ := h
  obtain ⟨⟨n1, n2⟩, n3, n4⟩ := hn
  simp only at n1 n2 n3 n4 s1 s3 hl hl2 HS HG HOK HF
  obtain ⟨htn, rfl⟩ : ∃ n : Nat, ht = n := ⟨ht.toNat, by omega⟩
  obtain ⟨rdn, rfl⟩ : ∃ n : Nat, rd = n := ⟨rd.toNat, by omega⟩
  obtain ⟨an, rfl⟩ : ∃ n : Nat, ad = decide (n = 1) := ⟨if ad = true then 1 else 0, by cases ad <;> rfl⟩
  obtain ⟨av, hav⟩ : ∃ n : Nat, n = (if decide (an = 1) = true then 1 else 0) := ⟨_, rfl⟩
  simp only [Int.toNat_natCast, ← hav] at HF
  have HAV := Lib.hid hav
  clear hav
  unfold maxLen at s2 s4
  have R0 := Lib.hid ((RowAt.new w #[.string pa, .int .u64 (htn : Int), .string ro, .string tx, .string pr, .string va, .slice pS val.length cS, .string vo, .bool (decide (an = 1)), .int .u64 (rdn : Int), .slice pG se.length cG] 26).alloc (.cells #[.slice none 0 0] 174))
  have R1 := Lib.hid (RowAt.new' (w.alloc (.cells #[.string pa, .int .u64 (htn : Int), .string ro, .string tx, .string pr, .string va, .slice pS val.length cS, .string vo, .bool (decide (an = 1)), .int .u64 (rdn : Int), .slice pG se.length cG] 26)) #[.slice none 0 0] 174 (k := w.heap.size + 1) (by simp))
  have HB0 := Lib.hid (bel2 w (.cells #[.string pa, .int .u64 (htn : Int), .string ro, .string tx, .string pr, .string va, .slice pS val.length cS, .string vo, .bool (decide (an = 1)), .int .u64 (rdn : Int), .slice pG se.length cG] 26) (.cells #[.slice none 0 0] 174))
  clear n1 n2 n3 n4
  go_enter Try.func67, Try.ntmps67
  go_upto_region 4 with (fail)
  generalize (w.alloc (.cells #[.string pa, .int .u64 (htn : Int), .string ro, .string tx, .string pr, .string va, .slice pS val.length cS, .string vo, .bool (decide (an = 1)), .int .u64 (rdn : Int), .slice pG se.length cG] 26)).alloc (.cells #[.slice none 0 0] 174) = W at *
  obtain ⟨x0, x1, x2, x3, x4, x5, x6, x7, x8, x9, x10⟩ := R0.out.c11
  go_upto_if 20 with (fail)
  go_cut [7] (fun t wr => t = .int .u64 (av : Int) ∧ W = wr)
  case first =>
    by_cases h1 : an = 1
    · have H1 := Lib.hid (show av = 1 by rw [HAV.out]; simp [h1])
      subst h1
      go_wp2
      go_meet
      case rel => exact ⟨by rw [H1.out]; rfl, rfl⟩
    · have H1 := Lib.hid (show av = 0 by rw [HAV.out]; simp [h1])
      go_wp2
      go_meet
      case rel => exact ⟨by rw [H1.out]; rfl, rfl⟩
  case rest =>
  obtain ⟨rfl, rfl⟩ := hcut
  go_upto_region 8 with (fail)
  clear x0 x1 x2 x3 x4 x5 x6 x7 x8 x9 x10
  have O0 : Hid (OwnE encS 9 W W.heap.size (.slice none 0 0) []) := Lib.hid (OwnE.nil encS _ _ _)
  have HWS : Hid (w.heap.size + 2 ≤ W.heap.size) := Lib.hid R1.out.lt
  go_loopw [8, 24] (fun s8 s24 wr => ∃ (i : Nat) (p : Option Addr) (c : Nat) (ss : List ByteArray), i ≤ se.length ∧ s24 = .int .i64 i ∧ s8 = .slice p i c ∧ Hid (ss = (se.take i).map sealB) ∧ Hid (OwnE encS 9 wr W.heap.size (.slice p i c) ss) ∧ Hid (Below W.heap.size W wr)) (fun _ s _ => se.length - (intOf s).toNat)
  case atStart => exact ⟨0, none, 0, [], Nat.zero_le _, rfl, rfl, Lib.hid (by simp), O0, Lib.hid (Below.refl _ _)⟩
  case round =>
    obtain ⟨i, p, c, ss, hi, rfl, rfl, hss, ho, hb⟩ := hrel
    clear O0
    have HSS := Lib.hid hss.out
    clear hss
    have O := Lib.hid ho.out
    have HB := Lib.hid hb.out
    clear ho hb
    have HTL : Hid (ss.length = i) := Lib.hid (by rw [HSS.out]; simp; omega)
    by_cases hlt : i < se.length
    · obtain ⟨s, hs⟩ : ∃ s, se[i]? = some s := ⟨_, List.getElem?_eq_getElem hlt⟩
      obtain ⟨a, rfl, hc⟩ := (RowE.below encG HG.out (HB0.out.trans (HB.out.mono HB0.out.size)) (Nat.le_refl _)).atG i s hs
      have hsk := HOK.out s (List.mem_of_getElem? hs)
      have HTK : Hid (ss ++ [sealB s] = (se.take (i + 1)).map sealB) := Lib.hid (by rw [List.take_add_one, hs, HSS.out]; simp)
      have KS := sealB_any s hsk
      generalize hsb : sealB s = sb at *
      generalize hbd : (if sigOk s = true then (0 : Int) else 1) = bad at *
      replace KS := Lib.hid KS
      clear hs hsk hsb hbd
      obtain ⟨⟨r0, r1, r2, r3⟩, ⟨s0, s1', s2', s3'⟩, v⟩ := s
      have c0 := hc 0 _ rfl
      have c1 := hc 1 _ rfl
      have c2 := hc 2 _ rfl
      have c3 := hc 3 _ rfl
      have c4 := hc 4 _ rfl
      have c5 := hc 5 _ rfl
      have c6 := hc 6 _ rfl
      have c7 := hc 7 _ rfl
      have c8 := hc 8 _ rfl
      clear hc
      replace c0 : wr.cell? (a.add (i * 9)) = _ := c0
      replace c1 : wr.cell? ⟨(a.add (i * 9)).block, (a.add (i * 9)).off + 1, none⟩ = _ := c1
      replace c2 : wr.cell? ⟨(a.add (i * 9)).block, (a.add (i * 9)).off + 2, none⟩ = _ := c2
      replace c3 : wr.cell? ⟨(a.add (i * 9)).block, (a.add (i * 9)).off + 3, none⟩ = _ := c3
      replace c4 : wr.cell? ⟨(a.add (i * 9)).block, (a.add (i * 9)).off + 4, none⟩ = _ := c4
      replace c5 : wr.cell? ⟨(a.add (i * 9)).block, (a.add (i * 9)).off + 5, none⟩ = _ := c5
      replace c6 : wr.cell? ⟨(a.add (i * 9)).block, (a.add (i * 9)).off + 6, none⟩ = _ := c6
      replace c7 : wr.cell? ⟨(a.add (i * 9)).block, (a.add (i * 9)).off + 7, none⟩ = _ := c7
      replace c8 : wr.cell? ⟨(a.add (i * 9)).block, (a.add (i * 9)).off + 8, none⟩ = _ := c8
      try simp only at c0 c1 c2 c3 c4 c5 c6 c7 c8
      have O2 := Lib.hid (OwnE.below encS O.out (bel1 wr (.cells (sgc ((r0, r1, r2, r3), (s0, s1', s2', s3'), v)) 68)) (Nat.le_refl _))
      have HB2 := Lib.hid (HB.out.alloc HB.out.size (.cells (sgc ((r0, r1, r2, r3), (s0, s1', s2', s3'), v)) 68))
      clear O HB
      go_upto_region 11 with (go_at_call 58; refine (KS.out _).mono ?_; rintro e w3 ⟨rfl, hb⟩; have HB3 := Lib.hid (HB2.out.trans (hb.mono HB2.out.size)); have O3 := Lib.hid (OwnE.below encS O2.out hb (Nat.le_refl _)); clear hb c0 c1 c2 c3 c4 c5 c6 c7 c8)
      have O4 := Lib.hid (OwnE.below encS O3.out (bel1 w3 (.cells #[.string sb] 9)) (Nat.le_refl _))
      have R4 := Lib.hid (RowAt.new w3 #[.string sb] 9)
      have HB4 := Lib.hid (HB3.out.alloc HB3.out.size (.cells #[.string sb] 9))
      have HL4 := Lib.hid (RowE.lit encS R4.out sb rfl)
      have HSZ : Hid (W.heap.size ≤ (w3.alloc (.cells #[.string sb] 9)).heap.size) := Lib.hid HB4.out.size
      clear O2 O3 HB2 HB3
      go_upto_region 12 with (at_builtin; refine wpList_append_rowE encS Try.underlying23 info_str rfl rfl _ _ rfl W.heap.size _ ss rfl O4.out _ [sb] rfl HL4.out (by unfold maxLen; rw [HTL.out]; simp; omega) (by rw [HTL.out]; simp; omega) HSZ.out ?_)
      intro v' w' ho hbb hz _
      obtain ⟨p', c', e, _, _⟩ := RowE.shape encS (OwnE.row encS ho)
      rw [List.length_append, HTL.out, List.length_singleton] at e
      subst e
      have O5 := Lib.hid ho
      have HB5 := Lib.hid (show Below W.heap.size W w' from hbb _ HB4.out)
      clear ho hbb hz O4 HB4 HL4 R4 HSS HTL
      generalize ss ++ [sb] = ss2 at *
      go_wp2
      exact ⟨⟨i + 1, p', c', ss2, by omega, by simp, rfl, HTK, O5, HB5⟩, by simp [intOf]; omega⟩
    · obtain rfl : i = se.length := by omega
      have hss := HSS.out
      rw [List.take_length] at hss
      have HS5 := Lib.hid hss
      have HSR := Lib.hid (OwnE.row encS O.out)
      have R0' := Lib.hid (R0.out.belowS HB.out)
      have R1' := Lib.hid (R1.out.belowS HB.out)
      have HV := Lib.hid (RowE.below encS HS.out (HB0.out.trans (HB.out.mono HB0.out.size)) (Nat.le_refl _))
      have HB5 := Lib.hid (HB0.out.trans (HB.out.mono HB0.out.size))
      have hlen : ss.length ≤ 1000 := by have := HTL.out; omega
      clear R0 R1 O HB hss HSS HTL HWS
      have R0 := R0'
      have R1 := R1'
      clear R0' R1'
      generalize wr = W5 at *
      have HVS : Hid (∀ W' v ts, WrAt W5 (w.heap.size + 1) W' v ts → RowE encS W' (.slice pS val.length cS) val) := Lib.hid (fun W' v ts hw => WrAt.rowE hw HV.out R1.out (fun x c hc => encS_ne x none 0 0 c hc))
      have HSS : Hid (∀ W' v ts, WrAt W5 (w.heap.size + 1) W' v ts → RowE encS W' (.slice p se.length c) ss) := Lib.hid (fun W' v ts hw => WrAt.rowE hw HSR.out R1.out (fun x c hc => encS_ne x none 0 0 c hc))
      have HW := Lib.hid (WrAt.start R1.out)
      obtain ⟨x0, x1, x2, x3, x4, x5, x6, x7, x8, x9, x10⟩ := R0.out.c11
      go_upto_region 23 with (first
        | (go_at_call 118; refine (text_any W5 _ _ _ _ _ HW.out (by simp)).mono ?_; rintro e wN ⟨rfl, vN, hw⟩; have HW := Lib.hid hw; clear hw x0 x1 x2 x3 x4 x5 x6 x7 x8 x9 x10; obtain ⟨x0, x1, x2, x3, x4, x5, x6, x7, x8, x9, x10⟩ := (HW.out.other R0.out (by omega)).c11)
        | (go_at_call 119; refine (number_anyW W5 _ _ _ _ _ HW.out (by simp)).mono ?_; rintro e wN ⟨rfl, vN, hw⟩; have HW := Lib.hid hw; clear hw x0 x1 x2 x3 x4 x5 x6 x7 x8 x9 x10; obtain ⟨x0, x1, x2, x3, x4, x5, x6, x7, x8, x9, x10⟩ := (HW.out.other R0.out (by omega)).c11)
        | (go_at_call 120; refine (list_any W5 _ _ _ _ _ val HW.out (by simp) (HVS.out _ _ _ HW.out) hl).mono ?_; rintro e wN ⟨rfl, vN, hw⟩; have HW := Lib.hid hw; clear hw x0 x1 x2 x3 x4 x5 x6 x7 x8 x9 x10; obtain ⟨x0, x1, x2, x3, x4, x5, x6, x7, x8, x9, x10⟩ := (HW.out.other R0.out (by omega)).c11))
      go_upto_region 24 with (first
        | (go_at_call 120; refine (list_any W5 _ _ _ _ _ ss HW.out (by simp) (HSS.out _ _ _ HW.out) hlen).mono ?_; rintro e wN ⟨rfl, vN, hw⟩; have HW := Lib.hid hw; clear hw x0 x1 x2 x3 x4 x5 x6 x7 x8 x9 x10; obtain ⟨x0, x1, x2, x3, x4, x5, x6, x7, x8, x9, x10⟩ := (HW.out.other R0.out (by omega)).c11))
      have hrow : RowT encFd (fun _ => True) wN vN F := by
        have := (HW.out.2.1.row (fun b hb => hb)).weaken (A' := fun _ => True) (fun _ _ => trivial)
        rw [HF.out, ← HS5.out]
        exact this
      have HRW := Lib.hid hrow
      have HLO := Lib.hid (HW.out.low HB5.out (Nat.le_succ _))
      obtain ⟨T, hrw⟩ := HW.out.row
      obtain ⟨a0, af0⟩ := hrw.c1
      have HLE := Lib.hid (Nat.le_trans HB5.out.size HW.out.lt.2)
      clear hrow hrw HW x0 x1 x2 x3 x4 x5 x6 x7 x8 x9 x10
      go_wp2_with (first
        | (go_at_call 54; refine (KW.out _ _ HRW.out).mono ?_; rintro e w9 ⟨rfl, hb⟩; have HB9 := Lib.hid (HLO.out.trans (hb.mono HLE.out)); clear hb))
      go_ret2
      exact ⟨rfl, HB9.out⟩
end Go.Proofs.Ytefmlbckbhlgdaa

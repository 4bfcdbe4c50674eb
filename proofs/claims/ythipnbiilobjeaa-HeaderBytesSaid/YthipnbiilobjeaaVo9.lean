/- Vote: whether validators and votes may be. Vote: whether validators and votes may be, the document's. -/
import Derived.Test.YthipnbiilobjeaaVo7
namespace Go.Proofs.Ythipnbiilobjeaa
open Go.RowKit

def VotesOk (S : List ByteArray) (V : List Bal) : Prop := (∀ (j : Nat) x, V[j]? = some x → standsL S x = true ∧ wonL S V x = false) ∧ (∀ (j : Nat) x y, V[j]? = some x → V[j + 1]? = some y → ltB x y = true)
def RightOk (S : List ByteArray) (V : List Bal) : Prop := SetOk S ∧ VotesOk S V
noncomputable def rightL (S : List ByteArray) (V : List Bal) : Bool := @decide (RightOk S V) (Classical.propDecidable _)
theorem rightL_true {S : List ByteArray} {V : List Bal} (h : RightOk S V) : rightL S V = true := by unfold rightL; exact @decide_eq_true _ (Classical.propDecidable _) h
theorem rightL_false {S : List ByteArray} {V : List Bal} (h : ¬ RightOk S V) : rightL S V = false := by unfold rightL; exact @decide_eq_false _ (Classical.propDecidable _) h
theorem rightL_iff (S : List ByteArray) (V : List Bal) : rightL S V = true ↔ RightOk S V := by unfold rightL; exact @decide_eq_true_iff _ (Classical.propDecidable _)

def VotesTo (S : List ByteArray) (V : List Bal) (k : Nat) : Prop := (∀ (j : Nat) x, j < k → V[j]? = some x → standsL S x = true ∧ wonL S V x = false) ∧ (∀ (j : Nat) x y, j + 1 < k → V[j]? = some x → V[j + 1]? = some y → ltB x y = true)
theorem VotesTo.zero (S : List ByteArray) (V : List Bal) : VotesTo S V 0 := ⟨fun _ _ h => by omega, fun _ _ _ h => by omega⟩
theorem VotesTo.step {S : List ByteArray} {V : List Bal} {k : Nat} {x : Bal} (h : VotesTo S V k) (hx : V[k]? = some x) (hs : standsL S x = true) (hw : wonL S V x = false) (hp : ∀ j y, k = j + 1 → V[j]? = some y → ltB y x = true) : VotesTo S V (k + 1) := by
  refine ⟨fun j y hj hy => ?_, fun j y z hj hy hz => ?_⟩
  · by_cases e : j = k
    · subst e; rw [hx] at hy; injection hy with e; subst e; exact ⟨hs, hw⟩
    · exact h.1 j y (by omega) hy
  · by_cases e : j + 1 = k
    · subst e; rw [hx] at hz; injection hz with e; subst e; exact hp j y rfl hy
    · exact h.2 j y z (by omega) hy hz
theorem VotesTo.all {S : List ByteArray} {V : List Bal} (h : VotesTo S V V.length) : VotesOk S V :=
  ⟨fun j x hx => h.1 j x (List.getElem?_eq_some_iff.1 hx).1 hx, fun j x y hx hy => h.2 j x y (List.getElem?_eq_some_iff.1 hy).1 hx hy⟩

/-- The cells of an element, in every later world. -/
theorem RowE.later {W : World} {p : Option Addr} {n c : Nat} {l : List Bal} (h : RowE encB W (.slice p n c) l) {i : Nat} {b : Bal} (hb : l[i]? = some b) : ∃ a, p = some a ∧
    (∀ u : Later W, u.w.cell? (a.add (i * 3)) = some (.string b.1)) ∧ (∀ u : Later W, u.w.cell? ⟨(a.add (i * 3)).block, (a.add (i * 3)).off + 1, none⟩ = some (.string b.2.1)) ∧ (∀ u : Later W, u.w.cell? ⟨(a.add (i * 3)).block, (a.add (i * 3)).off + 2, none⟩ = some (.bool b.2.2)) := by
  obtain ⟨_, _, _, H⟩ := h.atB
  obtain ⟨a, ha, c0, c1, c2⟩ := H i b hb
  refine ⟨a, ha, fun u => ?_, fun u => ?_, fun u => ?_⟩
  · rw [u.below.cell (block_lt_of_cell c0)]; exact c0
  · rw [u.below.cell (block_lt_of_cell c1)]; exact c1
  · rw [u.below.cell (block_lt_of_cell c2)]; exact c2

set_option maxRecDepth 100000 in
set_option maxHeartbeats 4000000 in
theorem right_any (sv v : Value) (S : List ByteArray) (l : List Bal) (w : World) (hS : RowE encS w sv S) (h : RowE encB w v l) (hl : l.length ≤ 1000000) (hl2 : S.length ≤ 1000000) :
    Calls Try.prog 57 #[.agg #[sv, v]] w fun e w' => e = .returned (.bool (rightL S l)) ∧ Below w.heap.size w w' := by
  obtain ⟨pS, cS, rfl, s1, s2⟩ := hS.shape
  obtain ⟨p, cap, rfl, h1, h2⟩ := h.shape
  have HS := Lib.hid hS
  have HL := Lib.hid h
  clear h hS
  by_cases hset : SetOk S
  · have KS := fun w => set_any (.slice pS S.length cS) S w
    rw [setL_true hset] at KS
    have KS := Lib.hid KS
    go_enter Try.func57, Try.ntmps57
    go_wp2_with (go_at_call 95; refine (KS.out _ (RowE.below encS HS.out (belowA w _) (Nat.le_refl _)) hl2).mono ?_; rintro e w' ⟨rfl, rfl⟩)
    go_loopw [12] (fun c wr => ∃ k : Nat, k ≤ l.length ∧ c = .int .i64 k ∧ Hid (RowAt wr w.heap.size #[.slice pS S.length cS, .slice p l.length cap] 45) ∧ Hid (Below w.heap.size w wr) ∧ Hid (VotesTo S l k)) (fun c _ => l.length - (intOf c).toNat)
    case atStart => exact ⟨0, Nat.zero_le _, rfl, Lib.hid (RowAt.new _ _ _), Lib.hid (belowA w _), Lib.hid (VotesTo.zero _ _)⟩
    case round =>
      obtain ⟨k, hk, rfl, hr, hb, hto⟩ := hrel
      by_cases hlt : k < l.length
      · have hg := List.getElem?_eq_getElem hlt
        have HR := Lib.hid hr.out
        have HB := Lib.hid hb.out
        have hLr := RowE.below encB HL.out HB.out (Nat.le_refl _)
        have hSr := RowE.below encS HS.out HB.out (Nat.le_refl _)
        obtain ⟨_, _, _, HA⟩ := hLr.atB
        obtain ⟨ad, rfl, c0, c1, c2⟩ := HA k l[k] hg
        clear HA hr hb
        generalize l[k] = x at *
        obtain ⟨x1, x2, x3⟩ := x
        have hbA := belowA wr (.cells #[.string x1, .string x2, .bool x3] 92)
        have hLw := RowE.below encB hLr hbA (Nat.le_refl _)
        have hSw := RowE.below encS hSr hbA (Nat.le_refl _)
        obtain ⟨r0, r1⟩ := (HR.out.alloc (.cells #[.string x1, .string x2, .bool x3] 92)).l2
        obtain ⟨y0, y1, y2⟩ := (RowAt.new wr #[.string x1, .string x2, .bool x3] 92).l3
        have K1 := fun u : Later (wr.alloc (.cells #[.string x1, .string x2, .bool x3] 92)) => stands_any (.slice pS S.length cS) (.slice (some ad) l.length cap) S (x1, x2, x3) u.w (RowE.below encS hSw u.below (Nat.le_refl _))
        have K3 := fun u : Later (wr.alloc (.cells #[.string x1, .string x2, .bool x3] 92)) => won_any (.slice pS S.length cS) (.slice (some ad) l.length cap) S l (x1, x2, x3) u.w (RowE.below encS hSw u.below (Nat.le_refl _)) (RowE.below encB hLw u.below (Nat.le_refl _)) hl
        have HBA := Lib.hid (HB.out.trans (hbA.mono HB.out.size))
        have hin : Hid (w.heap.size ≤ (wr.alloc (.cells #[.string x1, .string x2, .bool x3] 92)).heap.size) := Lib.hid HBA.out.size
        have hrn := Lib.hid (HR.out.alloc (.cells #[.string x1, .string x2, .bool x3] 92))
        have HLW := Lib.hid hLw
        clear hbA hLw hSw hLr hSr HR HB
        cases e1 : standsL S (x1, x2, x3)
        · have hno : rightL S l = false := rightL_false (fun h => by have := (h.2.1 k _ hg).1; rw [e1] at this; cases this)
          rw [e1] at K1
          have K1 := Lib.hid K1
          have K3 := Lib.hid K3
          go_wp2_with fail
          generalize wr.alloc (.cells #[.string x1, .string x2, .bool x3] 92) = W at *
          (refine region_later mix ?hB ?_; case hB => kernel_rfl); (repeat (first | go_big_quiet_step ((first | (go_at_call 96; with_reducible exact Later.call (K1.out _)) | (go_at_call 97; with_reducible exact Later.call (K2.out _)) | (go_at_call 98; with_reducible exact Later.call (K3.out _)))) | quiet_step ((first | (go_at_call 96; with_reducible exact Later.call (K1.out _)) | (go_at_call 97; with_reducible exact Later.call (K2.out _)) | (go_at_call 98; with_reducible exact Later.call (K3.out _)))))); (refine wpQuiet_nil ?_; rintro _ ⟨u, rfl⟩)
          go_wp2_with fail
          go_ret
          exact ⟨by rw [hno]; rfl, HBA.out.trans (u.below.mono hin.out)⟩
        · rw [e1] at K1
          have K1 := Lib.hid K1
          by_cases hk0 : k = 0
          · subst hk0
            cases e3 : wonL S l (x1, x2, x3)
            · rw [e3] at K3
              have K3 := Lib.hid K3
              have hnx := Lib.hid (hto.out.step hg e1 e3 (fun j y e => by omega))
              rw [Addr.add_zero'] at c0 c1 c2
              go_wp2_with fail
              generalize wr.alloc (.cells #[.string x1, .string x2, .bool x3] 92) = W at *
              (refine region_later mix ?hB ?_; case hB => kernel_rfl); (repeat (first | go_big_quiet_step ((first | (go_at_call 96; with_reducible exact Later.call (K1.out _)) | (go_at_call 97; with_reducible exact Later.call (K2.out _)) | (go_at_call 98; with_reducible exact Later.call (K3.out _)))) | quiet_step ((first | (go_at_call 96; with_reducible exact Later.call (K1.out _)) | (go_at_call 97; with_reducible exact Later.call (K2.out _)) | (go_at_call 98; with_reducible exact Later.call (K3.out _)))))); (refine wpQuiet_nil ?_; rintro _ ⟨u, rfl⟩)
              go_wp2_with fail
              exact ⟨⟨1, by omega, rfl, Lib.hid (hrn.out.later u), Lib.hid (HBA.out.trans (u.below.mono hin.out)), hnx⟩, by simp [intOf]; omega⟩
            · have hno : rightL S l = false := rightL_false (fun h => by have := (h.2.1 _ _ hg).2; rw [e3] at this; cases this)
              rw [e3] at K3
              have K3 := Lib.hid K3
              rw [Addr.add_zero'] at c0 c1 c2
              go_wp2_with fail
              generalize wr.alloc (.cells #[.string x1, .string x2, .bool x3] 92) = W at *
              (refine region_later mix ?hB ?_; case hB => kernel_rfl); (repeat (first | go_big_quiet_step ((first | (go_at_call 96; with_reducible exact Later.call (K1.out _)) | (go_at_call 97; with_reducible exact Later.call (K2.out _)) | (go_at_call 98; with_reducible exact Later.call (K3.out _)))) | quiet_step ((first | (go_at_call 96; with_reducible exact Later.call (K1.out _)) | (go_at_call 97; with_reducible exact Later.call (K2.out _)) | (go_at_call 98; with_reducible exact Later.call (K3.out _)))))); (refine wpQuiet_nil ?_; rintro _ ⟨u, rfl⟩)
              go_wp2_with fail
              go_ret
              exact ⟨by rw [hno]; rfl, HBA.out.trans (u.below.mono hin.out)⟩
          · obtain ⟨i, hi⟩ : ∃ i, k = i + 1 := ⟨k - 1, by omega⟩
            have hg0 := List.getElem?_eq_getElem (show i < l.length by omega)
            generalize l[i] = y at *
            have hgi : l[i + 1]? = some (x1, x2, x3) := by rw [← hi]; exact hg
            obtain ⟨_, ee, z0, z1, z2⟩ := HLW.out.later hg0
            cases ee
            obtain ⟨q1, q2, q3⟩ := y
            have htn : ((k : Int) - 1).toNat = i := by omega
            have hp : decide (0 < k) = true := by simp; omega
            have hp' : 0 < k := by omega
            have hp0 : 0 ≤ (k : Int) - 1 := by omega
            have hp1 : (k : Int) - 1 < l.length := by omega
            have K2 := Lib.hid (fun u : Later (wr.alloc (.cells #[.string x1, .string x2, .bool x3] 92)) => order_any (q1, q2, q3) (x1, x2, x3) u.w)
            have ho := (ordB_lt (q1, q2, q3) (x1, x2, x3)).1
            cases e2 : ltB (q1, q2, q3) (x1, x2, x3)
            · have hno : rightL S l = false := rightL_false (fun h => by have := h.2.2 i _ _ hg0 hgi; rw [e2] at this; cases this)
              have hoo : 0 ≤ ordB (q1, q2, q3) (x1, x2, x3) := by
                rcases Int.lt_or_le (ordB (q1, q2, q3) (x1, x2, x3)) 0 with h | h
                · rw [ho.1 h] at e2; cases e2
                · exact h
              have K3 := Lib.hid K3
              generalize ordB (q1, q2, q3) (x1, x2, x3) = o at *
              clear hi hgi hg hg0 ho
              go_wp2_with fail
              generalize wr.alloc (.cells #[.string x1, .string x2, .bool x3] 92) = W at *
              (refine region_later mix ?hB ?_; case hB => kernel_rfl); (repeat (first | go_big_quiet_step ((first | (go_at_call 96; with_reducible exact Later.call (K1.out _)) | (go_at_call 97; with_reducible exact Later.call (K2.out _)) | (go_at_call 98; with_reducible exact Later.call (K3.out _)))) | quiet_step ((first | (go_at_call 96; with_reducible exact Later.call (K1.out _)) | (go_at_call 97; with_reducible exact Later.call (K2.out _)) | (go_at_call 98; with_reducible exact Later.call (K3.out _)))))); (refine wpQuiet_nil ?_; rintro _ ⟨u, rfl⟩)
              go_wp2_with fail
              go_ret
              exact ⟨by rw [hno]; rfl, HBA.out.trans (u.below.mono hin.out)⟩
            · have hoo : ordB (q1, q2, q3) (x1, x2, x3) < 0 := ho.2 e2
              generalize ordB (q1, q2, q3) (x1, x2, x3) = o at *
              cases e3 : wonL S l (x1, x2, x3)
              · rw [e3] at K3
                have K3 := Lib.hid K3
                have hnx := Lib.hid (hto.out.step hg e1 e3 (fun j y e hy => by
                  obtain rfl : j = i := by omega
                  rw [hg0] at hy
                  injection hy with e
                  subst e
                  exact e2))
                clear hi hgi hg hg0 ho
                go_wp2_with fail
                generalize wr.alloc (.cells #[.string x1, .string x2, .bool x3] 92) = W at *
                (refine region_later mix ?hB ?_; case hB => kernel_rfl); (repeat (first | go_big_quiet_step ((first | (go_at_call 96; with_reducible exact Later.call (K1.out _)) | (go_at_call 97; with_reducible exact Later.call (K2.out _)) | (go_at_call 98; with_reducible exact Later.call (K3.out _)))) | quiet_step ((first | (go_at_call 96; with_reducible exact Later.call (K1.out _)) | (go_at_call 97; with_reducible exact Later.call (K2.out _)) | (go_at_call 98; with_reducible exact Later.call (K3.out _)))))); (refine wpQuiet_nil ?_; rintro _ ⟨u, rfl⟩)
                go_wp2_with fail
                exact ⟨⟨k + 1, by omega, by simp, Lib.hid (hrn.out.later u), Lib.hid (HBA.out.trans (u.below.mono hin.out)), hnx⟩, by simp [intOf]; omega⟩
              · have hno : rightL S l = false := rightL_false (fun h => by have := (h.2.1 k _ hg).2; rw [e3] at this; cases this)
                rw [e3] at K3
                have K3 := Lib.hid K3
                clear hi hgi hg hg0 ho
                go_wp2_with fail
                generalize wr.alloc (.cells #[.string x1, .string x2, .bool x3] 92) = W at *
                (refine region_later mix ?hB ?_; case hB => kernel_rfl); (repeat (first | go_big_quiet_step ((first | (go_at_call 96; with_reducible exact Later.call (K1.out _)) | (go_at_call 97; with_reducible exact Later.call (K2.out _)) | (go_at_call 98; with_reducible exact Later.call (K3.out _)))) | quiet_step ((first | (go_at_call 96; with_reducible exact Later.call (K1.out _)) | (go_at_call 97; with_reducible exact Later.call (K2.out _)) | (go_at_call 98; with_reducible exact Later.call (K3.out _)))))); (refine wpQuiet_nil ?_; rintro _ ⟨u, rfl⟩)
                go_wp2_with fail
                go_ret
                exact ⟨by rw [hno]; rfl, HBA.out.trans (u.below.mono hin.out)⟩
      · obtain rfl : k = l.length := by omega
        have hyes : rightL S l = true := rightL_true ⟨hset, hto.out.all⟩
        have HB := Lib.hid (Lib.hid hb).out
        clear hr hb hto
        go_wp2_with fail
        go_ret
        exact ⟨by rw [hyes]; rfl, HB.out.out⟩
  · have KS := fun w => set_any (.slice pS S.length cS) S w
    rw [setL_false hset] at KS
    have KS := Lib.hid KS
    have hno : rightL S l = false := rightL_false (fun h => hset h.1)
    go_enter Try.func57, Try.ntmps57
    go_wp2_with (go_at_call 95; refine (KS.out _ (RowE.below encS HS.out (belowA w _) (Nat.le_refl _)) hl2).mono ?_; rintro e w' ⟨rfl, rfl⟩)
    go_ret
    exact ⟨by rw [hno]; rfl, belowA w _⟩
end Go.Proofs.Ythipnbiilobjeaa

namespace Go.Proofs.Ythipnbiilobjeaa
open Go.RowKit

set_option maxRecDepth 100000 in
set_option maxHeartbeats 2000000 in
theorem ahead_any (a b : Bal) (w : World) : Calls Try.prog 111 #[balV a, balV b] w fun e w' => e = .returned (.bool (ltB a b)) ∧ Below w.heap.size w w' := by
  obtain ⟨a1, a2, a3⟩ := a
  obtain ⟨b1, b2, b3⟩ := b
  by_cases h : a2 = b2
  · have e := seq_true h
    have hv : ltB (a1, a2, a3) (b1, b2, b3) = ltS a1 b1 := by simp [ltB, h]
    go_enter Try.func111, Try.ntmps111
    go_wp2
    go_ret
    exact ⟨by rw [hv]; rfl, belowA2 w _ _⟩
  · have e := seq_false h
    have hv : ltB (a1, a2, a3) (b1, b2, b3) = ltS a2 b2 := by simp [ltB, h]
    go_enter Try.func111, Try.ntmps111
    go_wp2
    go_ret
    exact ⟨by rw [hv]; rfl, belowA2 w _ _⟩

set_option maxRecDepth 100000 in
set_option maxHeartbeats 4000000 in
theorem rright_any (sv v : Value) (S : List ByteArray) (l : List Bal) (w : World) (hS : RowE encS w sv S) (h : RowE encB w v l) (hl : l.length ≤ 1000000) (hl2 : S.length ≤ 1000000) :
    Calls Try.prog 62 #[.agg #[sv, v]] w fun e w' => e = .returned (.bool (rightL S l)) ∧ Below w.heap.size w w' := by
  obtain ⟨pS, cS, rfl, s1, s2⟩ := hS.shape
  obtain ⟨p, cap, rfl, h1, h2⟩ := h.shape
  have HS := Lib.hid hS
  have HL := Lib.hid h
  clear h hS
  go_enter Try.func62, Try.ntmps62
  go_wp2
  go_loopw [8] (fun c wr => ∃ k : Nat, k ≤ l.length ∧ c = .int .i64 k ∧ Hid (RowAt wr w.heap.size #[.slice pS S.length cS, .slice p l.length cap] 45) ∧ Hid (Below w.heap.size w wr) ∧ Hid (VotesTo S l k)) (fun c _ => l.length - (intOf c).toNat)
  case atStart => exact ⟨0, Nat.zero_le _, rfl, Lib.hid (RowAt.new _ _ _), Lib.hid (belowA w _), Lib.hid (VotesTo.zero _ _)⟩
  case round =>
    obtain ⟨k, hk, rfl, hr, hb, hto⟩ := hrel
    by_cases hlt : k < l.length
    · have hg := List.getElem?_eq_getElem hlt
      have HR := Lib.hid hr.out
      have HB := Lib.hid hb.out
      have hLr := RowE.below encB HL.out HB.out (Nat.le_refl _)
      have hSr := RowE.below encS HS.out HB.out (Nat.le_refl _)
      obtain ⟨_, _, _, HA⟩ := hLr.atB
      obtain ⟨ad, rfl, c0, c1, c2⟩ := HA k l[k] hg
      clear HA hr hb
      generalize l[k] = x at *
      obtain ⟨x1, x2, x3⟩ := x
      have hbA := belowA wr (.cells #[.string x1, .string x2, .bool x3] 92)
      have hLw := RowE.below encB hLr hbA (Nat.le_refl _)
      have hSw := RowE.below encS hSr hbA (Nat.le_refl _)
      obtain ⟨r0, r1⟩ := (HR.out.alloc (.cells #[.string x1, .string x2, .bool x3] 92)).l2
      obtain ⟨y0, y1, y2⟩ := (RowAt.new wr #[.string x1, .string x2, .bool x3] 92).l3
      have K1 := fun u : Later (wr.alloc (.cells #[.string x1, .string x2, .bool x3] 92)) => fits_any (.slice pS S.length cS) S (x1, x2, x3) u.w (RowE.below encS hSw u.below (Nat.le_refl _))
      have K3 := fun u : Later (wr.alloc (.cells #[.string x1, .string x2, .bool x3] 92)) => rcount_any (.slice (some ad) l.length cap) l (x1, x2, x3) u.w (RowE.below encB hLw u.below (Nat.le_refl _))
      have HBA := Lib.hid (HB.out.trans (hbA.mono HB.out.size))
      have hin : Hid (w.heap.size ≤ (wr.alloc (.cells #[.string x1, .string x2, .bool x3] 92)).heap.size) := Lib.hid HBA.out.size
      have hrn := Lib.hid (HR.out.alloc (.cells #[.string x1, .string x2, .bool x3] 92))
      have HLW := Lib.hid hLw
      clear hbA hLw hSw hLr hSr HR HB
      cases e1 : standsL S (x1, x2, x3)
      · have hno : rightL S l = false := rightL_false (fun h => by have := (h.2.1 k _ hg).1; rw [e1] at this; cases this)
        rw [e1] at K1
        have K1 := Lib.hid K1
        have K3 := Lib.hid K3
        go_wp2_with fail
        generalize wr.alloc (.cells #[.string x1, .string x2, .bool x3] 92) = W at *
        (refine region_later mix ?hB ?_; case hB => kernel_rfl); (repeat (first | go_big_quiet_step ((first | (go_at_call 110; with_reducible exact Later.call (K1.out _)) | (go_at_call 111; with_reducible exact Later.call (K2.out _)) | (go_at_call 112; with_reducible exact Later.call (K3.out _)))) | quiet_step ((first | (go_at_call 110; with_reducible exact Later.call (K1.out _)) | (go_at_call 111; with_reducible exact Later.call (K2.out _)) | (go_at_call 112; with_reducible exact Later.call (K3.out _)))))); (refine wpQuiet_nil ?_; rintro _ ⟨u, rfl⟩)
        go_wp2_with fail
        go_ret
        exact ⟨by rw [hno]; rfl, HBA.out.trans (u.below.mono hin.out)⟩
      · rw [e1] at K1
        have K1 := Lib.hid K1
        by_cases hk0 : k = 0
        · subst hk0
          cases e3 : wonL S l (x1, x2, x3)
          · have hw3 := wonL_int S l (x1, x2, x3)
            rw [e3] at hw3
            have hcl := cntL_le l (x1, x2, x3)
            have hw4 : 2 * (cntL l (x1, x2, x3) : Int) ≤ (S.length : Int) := by simpa using hw3
            clear hw3
            generalize hcn : cntL l (x1, x2, x3) = n at *
            have K3 := Lib.hid K3
            have hnx := Lib.hid (hto.out.step hg e1 e3 (fun j y e => by omega))
            rw [Addr.add_zero'] at c0 c1 c2
            go_wp2_with fail
            generalize wr.alloc (.cells #[.string x1, .string x2, .bool x3] 92) = W at *
            (refine region_later mix ?hB ?_; case hB => kernel_rfl); (repeat (first | go_big_quiet_step ((first | (go_at_call 110; with_reducible exact Later.call (K1.out _)) | (go_at_call 111; with_reducible exact Later.call (K2.out _)) | (go_at_call 112; with_reducible exact Later.call (K3.out _)))) | quiet_step ((first | (go_at_call 110; with_reducible exact Later.call (K1.out _)) | (go_at_call 111; with_reducible exact Later.call (K2.out _)) | (go_at_call 112; with_reducible exact Later.call (K3.out _)))))); (refine wpQuiet_nil ?_; rintro _ ⟨u, rfl⟩)
            go_wp2_with fail
            exact ⟨⟨1, by omega, rfl, Lib.hid (hrn.out.later u), Lib.hid (HBA.out.trans (u.below.mono hin.out)), hnx⟩, by simp [intOf]; omega⟩
          · have hno : rightL S l = false := rightL_false (fun h => by have := (h.2.1 _ _ hg).2; rw [e3] at this; cases this)
            have hw3 := wonL_int S l (x1, x2, x3)
            rw [e3] at hw3
            have hcl := cntL_le l (x1, x2, x3)
            have hw4 : (S.length : Int) < 2 * (cntL l (x1, x2, x3) : Int) := by simpa using hw3
            clear hw3
            generalize hcn : cntL l (x1, x2, x3) = n at *
            have K3 := Lib.hid K3
            rw [Addr.add_zero'] at c0 c1 c2
            go_wp2_with fail
            generalize wr.alloc (.cells #[.string x1, .string x2, .bool x3] 92) = W at *
            (refine region_later mix ?hB ?_; case hB => kernel_rfl); (repeat (first | go_big_quiet_step ((first | (go_at_call 110; with_reducible exact Later.call (K1.out _)) | (go_at_call 111; with_reducible exact Later.call (K2.out _)) | (go_at_call 112; with_reducible exact Later.call (K3.out _)))) | quiet_step ((first | (go_at_call 110; with_reducible exact Later.call (K1.out _)) | (go_at_call 111; with_reducible exact Later.call (K2.out _)) | (go_at_call 112; with_reducible exact Later.call (K3.out _)))))); (refine wpQuiet_nil ?_; rintro _ ⟨u, rfl⟩)
            go_wp2_with fail
            go_ret
            exact ⟨by rw [hno]; rfl, HBA.out.trans (u.below.mono hin.out)⟩
        · obtain ⟨i, hi⟩ : ∃ i, k = i + 1 := ⟨k - 1, by omega⟩
          have hg0 := List.getElem?_eq_getElem (show i < l.length by omega)
          generalize l[i] = y at *
          have hgi : l[i + 1]? = some (x1, x2, x3) := by rw [← hi]; exact hg
          obtain ⟨_, ee, z0, z1, z2⟩ := HLW.out.later hg0
          cases ee
          obtain ⟨q1, q2, q3⟩ := y
          have htn : ((k : Int) - 1).toNat = i := by omega
          have hp : decide (0 < k) = true := by simp; omega
          have hp' : 0 < k := by omega
          have hp0 : 0 ≤ (k : Int) - 1 := by omega
          have hp1 : (k : Int) - 1 < l.length := by omega
          have K2 := (fun u : Later (wr.alloc (.cells #[.string x1, .string x2, .bool x3] 92)) => ahead_any (q1, q2, q3) (x1, x2, x3) u.w)
          cases e2 : ltB (q1, q2, q3) (x1, x2, x3)
          · have hno : rightL S l = false := rightL_false (fun h => by have := h.2.2 i _ _ hg0 hgi; rw [e2] at this; cases this)
            rw [e2] at K2
            have K2 := Lib.hid K2
            have K3 := Lib.hid K3
            clear hi hgi hg hg0
            go_wp2_with fail
            generalize wr.alloc (.cells #[.string x1, .string x2, .bool x3] 92) = W at *
            (refine region_later mix ?hB ?_; case hB => kernel_rfl); (repeat (first | go_big_quiet_step ((first | (go_at_call 110; with_reducible exact Later.call (K1.out _)) | (go_at_call 111; with_reducible exact Later.call (K2.out _)) | (go_at_call 112; with_reducible exact Later.call (K3.out _)))) | quiet_step ((first | (go_at_call 110; with_reducible exact Later.call (K1.out _)) | (go_at_call 111; with_reducible exact Later.call (K2.out _)) | (go_at_call 112; with_reducible exact Later.call (K3.out _)))))); (refine wpQuiet_nil ?_; rintro _ ⟨u, rfl⟩)
            go_wp2_with fail
            go_ret
            exact ⟨by rw [hno]; rfl, HBA.out.trans (u.below.mono hin.out)⟩
          · rw [e2] at K2
            have K2 := Lib.hid K2
            cases e3 : wonL S l (x1, x2, x3)
            · have hw3 := wonL_int S l (x1, x2, x3)
              rw [e3] at hw3
              have hcl := cntL_le l (x1, x2, x3)
              have hw4 : 2 * (cntL l (x1, x2, x3) : Int) ≤ (S.length : Int) := by simpa using hw3
              clear hw3
              generalize hcn : cntL l (x1, x2, x3) = n at *
              have K3 := Lib.hid K3
              have hnx := Lib.hid (hto.out.step hg e1 e3 (fun j y e hy => by
                obtain rfl : j = i := by omega
                rw [hg0] at hy
                injection hy with e
                subst e
                exact e2))
              clear hi hgi hg hg0
              go_wp2_with fail
              generalize wr.alloc (.cells #[.string x1, .string x2, .bool x3] 92) = W at *
              (refine region_later mix ?hB ?_; case hB => kernel_rfl); (repeat (first | go_big_quiet_step ((first | (go_at_call 110; with_reducible exact Later.call (K1.out _)) | (go_at_call 111; with_reducible exact Later.call (K2.out _)) | (go_at_call 112; with_reducible exact Later.call (K3.out _)))) | quiet_step ((first | (go_at_call 110; with_reducible exact Later.call (K1.out _)) | (go_at_call 111; with_reducible exact Later.call (K2.out _)) | (go_at_call 112; with_reducible exact Later.call (K3.out _)))))); (refine wpQuiet_nil ?_; rintro _ ⟨u, rfl⟩)
              go_wp2_with fail
              exact ⟨⟨k + 1, by omega, by simp, Lib.hid (hrn.out.later u), Lib.hid (HBA.out.trans (u.below.mono hin.out)), hnx⟩, by simp [intOf]; omega⟩
            · have hno : rightL S l = false := rightL_false (fun h => by have := (h.2.1 k _ hg).2; rw [e3] at this; cases this)
              have hw3 := wonL_int S l (x1, x2, x3)
              rw [e3] at hw3
              have hcl := cntL_le l (x1, x2, x3)
              have hw4 : (S.length : Int) < 2 * (cntL l (x1, x2, x3) : Int) := by simpa using hw3
              clear hw3
              generalize hcn : cntL l (x1, x2, x3) = n at *
              have K3 := Lib.hid K3
              clear hi hgi hg hg0
              go_wp2_with fail
              generalize wr.alloc (.cells #[.string x1, .string x2, .bool x3] 92) = W at *
              (refine region_later mix ?hB ?_; case hB => kernel_rfl); (repeat (first | go_big_quiet_step ((first | (go_at_call 110; with_reducible exact Later.call (K1.out _)) | (go_at_call 111; with_reducible exact Later.call (K2.out _)) | (go_at_call 112; with_reducible exact Later.call (K3.out _)))) | quiet_step ((first | (go_at_call 110; with_reducible exact Later.call (K1.out _)) | (go_at_call 111; with_reducible exact Later.call (K2.out _)) | (go_at_call 112; with_reducible exact Later.call (K3.out _)))))); (refine wpQuiet_nil ?_; rintro _ ⟨u, rfl⟩)
              go_wp2_with fail
              go_ret
              exact ⟨by rw [hno]; rfl, HBA.out.trans (u.below.mono hin.out)⟩
    · obtain rfl : k = l.length := by omega
      have hval : rightL S l = setL S := by
        cases e : setL S
        · exact rightL_false (fun h => by rw [(setL_iff S).2 h.1] at e; cases e)
        · exact rightL_true ⟨(setL_iff S).1 e, hto.out.all⟩
      have HB := Lib.hid hb.out
      have HR := Lib.hid hr.out
      clear hr hb hto
      obtain ⟨a0, a1, af0, af1⟩ := HR.out.c2
      have KS := Lib.hid (rset_any (.slice pS S.length cS) S wr (RowE.below encS HS.out HB.out (Nat.le_refl _)) hl2)
      go_wp2_with (go_at_call 50; refine KS.out.mono ?_; rintro e w' ⟨rfl, rfl⟩)
      go_ret
      exact ⟨by rw [hval]; rfl, HB.out⟩
end Go.Proofs.Ythipnbiilobjeaa

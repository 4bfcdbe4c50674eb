/- Rlp: what is encoded is apart. Rlp: the contract of Decode. -/
import Derived.Test.YthipnbiilobjeaaRlp13
import Derived.Test.YthipnbiilobjeaaRlpRep
import Derived.Test.YthipnbiilobjeaaRlp17
import Derived.Defers
import Derived.Recover
namespace Go.Proofs.Ythipnbiilobjeaa
open Go.RowKit
set_option maxRecDepth 100000

theorem enc_ok {x : It} (h : x.enc.2 = 0) : x.pure ∧ x.write.length ≤ 4000 ∧ x.enc.1 = x.write ∧ x.size ≤ 4000 ∧ x.depth ≤ 8 := by
  by_cases hp : (x.pureB && decide (x.size ≤ 4000)) = false
  · rw [It.enc, if_pos hp] at h; simp at h
  by_cases h2 : 8 < x.depth
  · rw [It.enc, if_neg hp, if_pos h2] at h; simp at h
  by_cases h3 : 4000 < x.write.length
  · rw [It.enc, if_neg hp, if_neg h2, if_pos h3] at h; simp at h
  have e : x.enc = (x.write, 0) := by rw [It.enc, if_neg hp, if_neg h2, if_neg h3]
  simp only [Bool.not_eq_false, Bool.and_eq_true, decide_eq_true_eq] at hp
  exact ⟨(pureB_iff x).1 hp.1, by omega, by rw [e], hp.2, by omega⟩

/-- No item's bytes are the beginning of another one's. -/
theorem write_prefix {x y : It} {t : List UInt8} (hx : x.pure) (hy : y.pure) (h : y.write.length ≤ 4000) (e : x.write ++ t = y.write) : x = y ∧ t = [] := by
  have hl : x.write.length ≤ y.write.length := by rw [← e, List.length_append]; omega
  have h1 := (read_write 9000).1 x t hx (by omega) (by omega)
  have h2 := (read_write 9000).1 y [] hy (by omega) (by omega)
  rw [List.append_nil, ← e, h1] at h2
  simp at h2
  exact h2

theorem writes_apart {x y : It} (hx : x.pure) (hy : y.pure) (h : x.write.length ≤ 4000) (h' : y.write.length ≤ 4000) (n : Nat) (hn : n = min x.write.length y.write.length) (he : x.write.take n = y.write.take n) : x = y := by
  rcases Nat.le_total x.write.length y.write.length with hl | hl
  · rw [Nat.min_eq_left hl] at hn
    subst hn
    rw [List.take_length] at he
    have e := List.take_append_drop x.write.length y.write
    rw [← he] at e
    exact (write_prefix hx hy h' e).1
  · rw [Nat.min_eq_right hl] at hn
    subst hn
    rw [List.take_length] at he
    have e := List.take_append_drop y.write.length x.write
    rw [he] at e
    exact (write_prefix hy hx h e).1.symm
end Go.Proofs.Ythipnbiilobjeaa

namespace Go.Proofs.Ythipnbiilobjeaa
open Go.RowKit
set_option maxRecDepth 100000

theorem assert_bad (w : World) : (Instr.typeAssert (.iface 105 (.agg #[])) 20 105 true).run Try.prog w = .ok (.tuple #[.agg #[], .bool true]) w := by
  simp [Instr.typeAssert, run_underlying Try.underlying105]

set_option maxRecDepth 100000 in
set_option maxHeartbeats 1000000 in
theorem catch_panicking (g : Nat) (older : List PanicEntry) (w : World) (cs0 : Array Value) (hG : RowAt w g cs0 65) (hz : cs0.size = 3) (n0 : Value) (hE : RowAt w (g + 1) #[n0] 24) :
    CallsD Try.prog 77 #[.pointer (some ⟨g, 0, none⟩), .pointer (some ⟨g + 1, 0, none⟩)] (.panicking (badE :: older)) w fun e u' w' =>
      e = .returned (.tuple #[]) ∧ u' = .panicking ({ badE with recovered := true } :: older) ∧ RowAt w' g #[.bool false, .string ⟨#[]⟩, .slice none 0 0] 65 ∧ RowAt w' (g + 1) #[.int .i64 4] 24 ∧ Below g w w' := by
  obtain ⟨l⟩ := cs0
  match l, hz with
  | [v0, v1, v2], _ =>
    have G1 := hG.alloc (.cells #[] 105)
    have E1 := hE.alloc (.cells #[] 105)
    have B1 : Below g w (w.alloc (.cells #[] 105)) := (Below.refl _ _).alloc (by have := hG.lt; omega) _
    have R0 := G1.set 0 (.bool false) (cs' := #[.bool false, v1, v2]) rfl
    have R1 := R0.set 1 (.string ⟨#[]⟩) (cs' := #[.bool false, .string ⟨#[]⟩, v2]) rfl
    have R2 := R1.set 2 (.slice none 0 0) (cs' := #[.bool false, .string ⟨#[]⟩, .slice none 0 0]) rfl
    have E4 := ((E1.other ⟨g, 0, none⟩ (.bool false) (by simp)).other ⟨g, 1, none⟩ (.string ⟨#[]⟩) (by simp)).other ⟨g, 2, none⟩ (.slice none 0 0) (by simp)
    have HF := Lib.hid (R2.other ⟨g + 1, 0, none⟩ (.int .i64 4) (by simp))
    have HE := Lib.hid (E4.set 0 (.int .i64 4) (cs' := #[.int .i64 4]) rfl)
    have HB := Lib.hid ((((B1.setCell (p := ⟨g, 0, none⟩) (Nat.le_refl _) (.bool false)).setCell (p := ⟨g, 1, none⟩) (Nat.le_refl _) (.string ⟨#[]⟩)).setCell (p := ⟨g, 2, none⟩) (Nat.le_refl _) (.slice none 0 0)).setCell (p := ⟨g + 1, 0, none⟩) (by simp) (.int .i64 4))
    obtain ⟨c0, c1, c2, f0, f1, f2⟩ := G1.c3
    obtain ⟨d0, e0⟩ := E1.c1
    obtain ⟨d4, e4⟩ := E4.c1
    clear hG hE G1 E1 B1 R0 R1 R2 E4
    refine callsD_of_wpS Try.func77 rfl fun c₀ cs hu => ?_
    apply wpS_seq
    apply wpS_region
    simp [wpOpsS, go_sem, recoverD, hu, badE, Try.ntmps77, Exit.thenS]
    refine wpS_of_wp ?_
    change Code.wp _ _ _ { tmps := #[.pointer (some ⟨g, 0, none⟩), .pointer (some ⟨g + 1, 0, none⟩), .iface 105 (.agg #[]), undef, undef, .iface 105 (.agg #[]), undef, undef, undef, undef, undef, undef, undef, undef, undef, undef, undef], defers := [] } w
    have hta := assert_bad
    go_wp2
    refine ⟨rfl, _, rfl, .tuple #[], ?_, rfl, rfl, HF.out, HE.out, HB.out⟩
    simp [results, Try.results77, go_sem]

set_option maxRecDepth 100000 in
set_option maxHeartbeats 1000000 in
theorem catch_idle (g : Nat) (w : World) : CallsD Try.prog 77 #[.pointer (some ⟨g, 0, none⟩), .pointer (some ⟨g + 1, 0, none⟩)] .returning w fun e u' w' => e = .returned (.tuple #[]) ∧ u' = .returning ∧ w' = w := by
  refine callsD_of_wpS Try.func77 rfl fun c₀ cs hu => ?_
  apply wpS_seq
  apply wpS_region
  simp [wpOpsS, go_sem, recoverD, hu, Try.ntmps77, Exit.thenS]
  refine wpS_of_wp ?_
  change Code.wp _ _ _ { tmps := #[.pointer (some ⟨g, 0, none⟩), .pointer (some ⟨g + 1, 0, none⟩), .nilIface, undef, undef, .nilIface, undef, undef, undef, undef, undef, undef, undef, undef, undef, undef, undef], defers := [] } w
  go_wp2
  refine ⟨rfl, .returning, ?_, .tuple #[], ?_, rfl, rfl, rfl⟩
  · cases c₀; simp_all
  · simp [results, Try.results77, go_sem]

mutual
theorem size_le_write : ∀ x : It, x.pure → x.size ≤ x.write.length
  | .mk l b ks, h => by
    rw [It.pure] at h
    have hk := sizes_le_writes ks h.2.2
    rw [It.write, It.size]
    cases l with
    | true =>
      rw [if_pos rfl, List.length_append]
      have := headL_pos 192 (writes ks).length
      omega
    | false =>
      obtain rfl := h.2.1 rfl
      rw [if_neg (by simp)]
      simp only [sizes]
      split
      · omega
      · have := headL_pos 128 b.length
        rw [List.length_append]
        omega
theorem sizes_le_writes : ∀ ks : List It, pures ks → sizes ks ≤ (writes ks).length
  | [], _ => by simp [sizes]
  | k :: ks, h => by
    rw [pures] at h
    have h1 := size_le_write k h.1
    have h2 := sizes_le_writes ks h.2
    rw [sizes, writes, List.length_append]
    omega
end

abbrev zeroI : It := .mk false [] []

/-- What bytes are decoded as, and the error's number. -/
def decL (s : List UInt8) : It × Int :=
  if 4000 < s.length then (zeroI, 2)
  else match readL (2 * s.length) s with
    | none => (zeroI, 4)
    | some (x, t) => if t ≠ [] then (zeroI, 4) else if 8 < x.depth then (zeroI, 5) else (x, 0)

/-- How a Decode ends. -/
def DecPost (r : It × Int) (w : World) (e : Ending) (w' : World) : Prop :=
  ∃ v, e = .returned (.tuple #[v, .int .i64 r.2]) ∧ ItemP (fun b => w.heap.size ≤ b) w' r.1 v ∧ Below w.heap.size w w'

theorem zeroP {A : Nat → Prop} {w : World} : ItemP A w zeroI (.agg #[.bool false, .string ⟨#[]⟩, .slice none 0 0]) := by
  rw [ItemP]; exact ⟨_, rfl, by simp, .inl ⟨rfl, rfl⟩⟩

/-- Stores into both results' cells. -/
theorem store4 {w : World} {g : Nat} {a0 a1 a2 b0 : Value} (G : RowAt w g #[a0, a1, a2] 65) (E : RowAt w (g + 1) #[b0] 24) (v0 v1 v2 u0 : Value) :
    (w.setCell ⟨g, 0, none⟩ v0).cell? ⟨g, 0, none⟩ = some v0 ∧ ((w.setCell ⟨g, 0, none⟩ v0).setCell ⟨g, 1, none⟩ v1).cell? ⟨g, 1, none⟩ = some v1 ∧ (((w.setCell ⟨g, 0, none⟩ v0).setCell ⟨g, 1, none⟩ v1).setCell ⟨g, 2, none⟩ v2).cell? ⟨g, 2, none⟩ = some v2 ∧
    ((((w.setCell ⟨g, 0, none⟩ v0).setCell ⟨g, 1, none⟩ v1).setCell ⟨g, 2, none⟩ v2).setCell ⟨g + 1, 0, none⟩ u0).cell? ⟨g + 1, 0, none⟩ = some u0 ∧
    (((w.setCell ⟨g, 0, none⟩ v0).setCell ⟨g, 1, none⟩ v1).setCell ⟨g, 2, none⟩ v2).cell? ⟨g + 1, 0, none⟩ = some b0 ∧
    (((w.setCell ⟨g, 0, none⟩ v0).setCell ⟨g, 1, none⟩ v1).setCell ⟨g, 2, none⟩ v2).frozen? ⟨g + 1, 0, none⟩ = false ∧
    RowAt ((((w.setCell ⟨g, 0, none⟩ v0).setCell ⟨g, 1, none⟩ v1).setCell ⟨g, 2, none⟩ v2).setCell ⟨g + 1, 0, none⟩ u0) g #[v0, v1, v2] 65 := by
  have R0 := G.set 0 v0 (cs' := #[v0, a1, a2]) rfl
  have R1 := R0.set 1 v1 (cs' := #[v0, v1, a2]) rfl
  have R2 := R1.set 2 v2 (cs' := #[v0, v1, v2]) rfl
  have E4 := ((E.other ⟨g, 0, none⟩ v0 (by simp)).other ⟨g, 1, none⟩ v1 (by simp)).other ⟨g, 2, none⟩ v2 (by simp)
  exact ⟨R0.c3.1, R1.c3.2.1, R2.c3.2.2.1, (E4.set 0 u0 (cs' := #[u0]) rfl).c1.1, E4.c1.1, E4.c1.2, R2.other ⟨g + 1, 0, none⟩ u0 (by simp)⟩

theorem below_store4 {w0 w : World} {g : Nat} (h : Below g w0 w) (v0 v1 v2 u0 : Value) : Below g w0 ((((w.setCell ⟨g, 0, none⟩ v0).setCell ⟨g, 1, none⟩ v1).setCell ⟨g, 2, none⟩ v2).setCell ⟨g + 1, 0, none⟩ u0) :=
  (((h.setCell (p := ⟨g, 0, none⟩) (Nat.le_refl _) v0).setCell (p := ⟨g, 1, none⟩) (Nat.le_refl _) v1).setCell (p := ⟨g, 2, none⟩) (Nat.le_refl _) v2).setCell (p := ⟨g + 1, 0, none⟩) (by simp) u0

theorem ItemP.store4 {w : World} {g : Nat} {k : It} {v : Value} (h : ItemP (fun b => g + 2 ≤ b) w k v) (v0 v1 v2 u0 : Value) : ItemP (fun b => g ≤ b) ((((w.setCell ⟨g, 0, none⟩ v0).setCell ⟨g, 1, none⟩ v1).setCell ⟨g, 2, none⟩ v2).setCell ⟨g + 1, 0, none⟩ u0) k v := by
  refine ItemP.keep (fun a v hA hc => ⟨?_, by omega⟩) _ _ h
  have hne : a.block ≠ g := by omega
  have hne2 : a.block ≠ g + 1 := by omega
  rw [World.cell?_of_block (heap_setCell_other _ _ _ _ hne2), World.cell?_of_block (heap_setCell_other _ _ _ _ hne), World.cell?_of_block (heap_setCell_other _ _ _ _ hne), World.cell?_of_block (heap_setCell_other _ _ _ _ hne)]
  exact hc

set_option maxRecDepth 100000 in
set_option maxHeartbeats 2000000 in
theorem decode_any (s : ByteArray) (w : World) (hs : s.size ≤ 4100) : Calls Try.prog 42 #[.string s] w (DecPost (decL (bl s)) w) := by
  have hmf : ∀ (fn : Fn) (first cap : Array Value) (w : World), (Instr.makeFunc fn first cap).run Try.prog w = .ok (.func fn first cap) w := fun _ _ _ _ => rfl
  by_cases h1 : 4000 < s.size
  · have hd : decL (bl s) = (zeroI, 2) := by rw [decL, if_pos (by rw [bl_length]; exact h1)]
    rw [hd]
    go_enter_defers Try.func42, Try.ntmps42
    go_wp2
    simp [bodyPostD, Leaves, results, Try.results42, go_sem]
    exact ⟨_, rfl, zeroP, ((Below.refl _ _).alloc (Nat.le_refl _) _).alloc (by simp) _⟩
  · have KR := Lib.hid (fun W => read_any (2 * s.size) s W hs (by omega))
    have B0 : Hid (Below w.heap.size w ((w.alloc zeroO).alloc (.cells #[.int .i64 0] 24))) := Lib.hid (((Below.refl _ _).alloc (Nat.le_refl _) _).alloc (by simp) _)
    have G0 : Hid (RowAt ((w.alloc zeroO).alloc (.cells #[.int .i64 0] 24)) w.heap.size #[.bool false, .string ⟨#[]⟩, .slice none 0 0] 65) := Lib.hid ((RowAt.new _ _ _).alloc _)
    have E0 : Hid (RowAt ((w.alloc zeroO).alloc (.cells #[.int .i64 0] 24)) (w.heap.size + 1) #[.int .i64 0] 24) := Lib.hid (RowAt.new' _ _ _ (by simp))
    cases hr : readL (2 * s.size) (bl s) with
    | none =>
      have hd : decL (bl s) = (zeroI, 4) := by rw [decL, if_neg (by rw [bl_length]; exact h1), bl_length, hr]
      rw [hd]
      rw [hr] at KR
      go_enter_defers Try.func42, Try.ntmps42
      go_wp2_with fail
      refine (KR.out _).mono ?_
      rintro e w2 ⟨hb, rfl⟩
      have HG := G0.out.belowS hb
      have HE := E0.out.belowS hb
      have HB := Lib.hid (B0.out.trans (hb.mono B0.out.size))
      clear hb
      refine leaves_cons (f := 77) (args := #[.pointer (some ⟨w.heap.size, 0, none⟩), .pointer (some ⟨w.heap.size + 1, 0, none⟩)]) (by simp) (by simp [go_sem]) ?_
      refine (catch_panicking w.heap.size [] _ _ HG rfl _ HE).mono ?_
      rintro e u' w3 ⟨rfl, rfl, hG, hE, hB⟩
      obtain ⟨c0, c1, c2, -, -, -⟩ := hG.c3
      obtain ⟨d0, -⟩ := hE.c1
      simp [Leaves, settle, results, Try.results42, go_sem, c0, c1, c2, d0]
      exact ⟨_, rfl, zeroP, HB.out.trans hB⟩
    | some q =>
      obtain ⟨x, t⟩ := q
      have hd : decL (bl s) = if t ≠ [] then (zeroI, 4) else if 8 < x.depth then (zeroI, 5) else (x, 0) := by rw [decL, if_neg (by rw [bl_length]; exact h1), bl_length, hr]
      rw [hr] at KR
      obtain ⟨he, hp⟩ := (read_sound _).1 _ _ _ hr
      have hsz : x.size ≤ 1000000 := by
        have h2 := size_le_write x hp
        have h3 := congrArg List.length he
        rw [bl_length, List.length_append] at h3
        omega
      by_cases ht : t = []
      · subst ht
        rw [if_neg (by simp)] at hd
        rw [hd]
        have hse : (mkS []).toList = [] := by rw [toList_bl, bl_mk]
        have KP := Lib.hid (fun W v (hi : ItemIs W x v) => deep_any x.size x (Nat.le_refl _) hp hsz v W hi)
        clear hd hr he hp hsz
        generalize x.depth = d at *
        by_cases h8 : 8 < d
        · rw [if_pos h8]
          go_enter_defers Try.func42, Try.ntmps42
          go_wp2_with fail
          refine (KR.out _).mono ?_
          rintro e w2 ⟨hb, v, rfl, hv⟩
          obtain ⟨⟨yl, yb, yp, yn, yc⟩, rfl⟩ := hv.triple
          simp only [IV.val, IV.kids] at hv ⊢
          have G2 := Lib.hid ((G0.out.belowS hb).alloc (ivO (yl, yb, yp, yn, yc)))
          have E2 := Lib.hid ((E0.out.belowS hb).alloc (ivO (yl, yb, yp, yn, yc)))
          have T2 : Hid (RowAt (w2.alloc (ivO (yl, yb, yp, yn, yc))) w2.heap.size #[.bool yl, .string yb, .slice yp yn yc] 65) := Lib.hid (RowAt.new _ _ _)
          have hws : w.heap.size + 2 ≤ w2.heap.size := by have := hb.size; simpa using this
          have B2 := Lib.hid ((B0.out.trans (hb.mono B0.out.size)).alloc (by omega) (ivO (yl, yb, yp, yn, yc)))
          have I2 : Hid (ItemP (fun b => w.heap.size + 2 ≤ b) (w2.alloc (ivO (yl, yb, yp, yn, yc))) x (.agg #[.bool yl, .string yb, .slice yp yn yc])) := Lib.hid (ItemP.keep (fun a v hA hc => ⟨by rw [World.cell?_of_block (Below.heap_alloc _ _ _ (block_lt_of_cell hc))]; exact hc, by simpa using hA⟩) _ _ hv)
          have KD := Lib.hid (KP.out _ _ (ItemP.is _ _ I2.out))
          clear hb hv B0 G0 E0 KR KP
          obtain ⟨t0, t1, t2, tf0, tf1, tf2⟩ := T2.out.c3
          go_wp2_with fail
          refine KD.out.mono ?_
          rintro e w4 ⟨rfl, hb⟩
          clear t0 t1 t2 tf0 tf1 tf2
          have G4 := G2.out.belowS hb
          have E4 := E2.out.belowS hb
          have T4 := T2.out.belowS hb
          have B4 := B2.out.trans (hb.mono B2.out.size)
          have I4 : Hid (ItemP (fun b => w.heap.size + 2 ≤ b) w4 x (.agg #[.bool yl, .string yb, .slice yp yn yc])) := Lib.hid (ItemP.keep (fun a v hA hc => ⟨by rw [hb.cell (block_lt_of_cell hc)]; exact hc, hA⟩) _ _ I2.out)
          have hne : ¬ w2.heap.size = w.heap.size := by omega
          have hne2 : ¬ w2.heap.size = w.heap.size + 1 := by omega
          obtain ⟨t0, t1, t2, tf0, tf1, tf2⟩ := T4.c3
          obtain ⟨c0, c1, c2, f0, f1, f2⟩ := G4.c3
          obtain ⟨m0, m1, m2, n0, d4, e4, -⟩ := store4 G4 E4 (.bool false) (.string ⟨#[]⟩) (.slice none 0 0) (.int .i64 5)
          have HB := Lib.hid (below_store4 B4 (.bool false) (.string ⟨#[]⟩) (.slice none 0 0) (.int .i64 5))
          clear hb G4 E4 T4 B4 G2 E2 T2 B2 I2 I4 KD
          go_wp2
          refine leaves_cons (f := 77) (args := #[.pointer (some ⟨w.heap.size, 0, none⟩), .pointer (some ⟨w.heap.size + 1, 0, none⟩)]) (by simp) (by simp [go_sem]) ?_
          refine (catch_idle w.heap.size _).mono ?_
          rintro e u' wz ⟨rfl, rfl, rfl⟩
          simp [Leaves, settle, results, Try.results42, go_sem, m0, m1, m2, n0]
          exact ⟨_, rfl, zeroP, HB.out⟩
        · rw [if_neg h8]
          go_enter_defers Try.func42, Try.ntmps42
          go_wp2_with fail
          refine (KR.out _).mono ?_
          rintro e w2 ⟨hb, v, rfl, hv⟩
          obtain ⟨⟨yl, yb, yp, yn, yc⟩, rfl⟩ := hv.triple
          simp only [IV.val, IV.kids] at hv ⊢
          have G2 := Lib.hid ((G0.out.belowS hb).alloc (ivO (yl, yb, yp, yn, yc)))
          have E2 := Lib.hid ((E0.out.belowS hb).alloc (ivO (yl, yb, yp, yn, yc)))
          have T2 : Hid (RowAt (w2.alloc (ivO (yl, yb, yp, yn, yc))) w2.heap.size #[.bool yl, .string yb, .slice yp yn yc] 65) := Lib.hid (RowAt.new _ _ _)
          have hws : w.heap.size + 2 ≤ w2.heap.size := by have := hb.size; simpa using this
          have B2 := Lib.hid ((B0.out.trans (hb.mono B0.out.size)).alloc (by omega) (ivO (yl, yb, yp, yn, yc)))
          have I2 : Hid (ItemP (fun b => w.heap.size + 2 ≤ b) (w2.alloc (ivO (yl, yb, yp, yn, yc))) x (.agg #[.bool yl, .string yb, .slice yp yn yc])) := Lib.hid (ItemP.keep (fun a v hA hc => ⟨by rw [World.cell?_of_block (Below.heap_alloc _ _ _ (block_lt_of_cell hc))]; exact hc, by simpa using hA⟩) _ _ hv)
          have KD := Lib.hid (KP.out _ _ (ItemP.is _ _ I2.out))
          clear hb hv B0 G0 E0 KR KP
          obtain ⟨t0, t1, t2, tf0, tf1, tf2⟩ := T2.out.c3
          go_wp2_with fail
          refine KD.out.mono ?_
          rintro e w4 ⟨rfl, hb⟩
          clear t0 t1 t2 tf0 tf1 tf2
          have G4 := G2.out.belowS hb
          have E4 := E2.out.belowS hb
          have T4 := T2.out.belowS hb
          have B4 := B2.out.trans (hb.mono B2.out.size)
          have I4 : Hid (ItemP (fun b => w.heap.size + 2 ≤ b) w4 x (.agg #[.bool yl, .string yb, .slice yp yn yc])) := Lib.hid (ItemP.keep (fun a v hA hc => ⟨by rw [hb.cell (block_lt_of_cell hc)]; exact hc, hA⟩) _ _ I2.out)
          have hne : ¬ w2.heap.size = w.heap.size := by omega
          have hne2 : ¬ w2.heap.size = w.heap.size + 1 := by omega
          obtain ⟨t0, t1, t2, tf0, tf1, tf2⟩ := T4.c3
          obtain ⟨c0, c1, c2, f0, f1, f2⟩ := G4.c3
          obtain ⟨m0, m1, m2, n0, d4, e4, -⟩ := store4 G4 E4 (.bool yl) (.string yb) (.slice yp yn yc) (.int .i64 0)
          have HB := Lib.hid (below_store4 B4 (.bool yl) (.string yb) (.slice yp yn yc) (.int .i64 0))
          have HI := Lib.hid (I4.out.store4 (.bool yl) (.string yb) (.slice yp yn yc) (.int .i64 0))
          clear hb G4 E4 T4 B4 G2 E2 T2 B2 I2 I4 KD
          go_wp2
          refine leaves_cons (f := 77) (args := #[.pointer (some ⟨w.heap.size, 0, none⟩), .pointer (some ⟨w.heap.size + 1, 0, none⟩)]) (by simp) (by simp [go_sem]) ?_
          refine (catch_idle w.heap.size _).mono ?_
          rintro e u' wz ⟨rfl, rfl, rfl⟩
          simp [Leaves, settle, results, Try.results42, go_sem, m0, m1, m2, n0]
          exact ⟨_, rfl, HI.out, HB.out⟩
      · rw [if_pos ht] at hd
        rw [hd]
        have hst : ¬ (mkS t).toList = [] := by rw [toList_bl, bl_mk]; exact ht
        have hst2 : (mkS t).toList.isEmpty = false := by rw [toList_bl, bl_mk]; simpa using ht
        clear hd hr he hp hsz ht
        go_enter_defers Try.func42, Try.ntmps42
        go_wp2_with fail
        refine (KR.out _).mono ?_
        rintro e w2 ⟨hb, v, rfl, hv⟩
        obtain ⟨⟨yl, yb, yp, yn, yc⟩, rfl⟩ := hv.triple
        simp only [IV.val, IV.kids] at hv ⊢
        have HG := (G0.out.belowS hb).alloc (ivO (yl, yb, yp, yn, yc))
        have HE := (E0.out.belowS hb).alloc (ivO (yl, yb, yp, yn, yc))
        have HB0 := (B0.out.trans (hb.mono B0.out.size)).alloc (by have := B0.out.size; have := hb.size; simp at *; omega) (ivO (yl, yb, yp, yn, yc))
        obtain ⟨m0, m1, m2, n0, d4, e4, -⟩ := store4 HG HE (.bool false) (.string ⟨#[]⟩) (.slice none 0 0) (.int .i64 4)
        have HB := Lib.hid (below_store4 HB0 (.bool false) (.string ⟨#[]⟩) (.slice none 0 0) (.int .i64 4))
        obtain ⟨c0, c1, c2, f0, f1, f2⟩ := HG.c3
        clear hb hv HG HE HB0 B0 G0 E0 KR
        go_wp2
        refine leaves_cons (f := 77) (args := #[.pointer (some ⟨w.heap.size, 0, none⟩), .pointer (some ⟨w.heap.size + 1, 0, none⟩)]) (by simp) (by simp [go_sem]) ?_
        refine (catch_idle w.heap.size _).mono ?_
        rintro e u' wz ⟨rfl, rfl, rfl⟩
        simp [Leaves, settle, results, Try.results42, go_sem, m0, m1, m2, n0]
        exact ⟨_, rfl, zeroP, HB.out⟩

theorem decL_enc {x : It} (h : x.enc.2 = 0) : decL x.write = (x, 0) := by
  obtain ⟨hp, hl, -, -, hd⟩ := enc_ok h
  have hr := (read_write (2 * x.write.length)).1 x [] hp (by omega) (by omega)
  rw [List.append_nil] at hr
  rw [decL, if_neg (by omega), hr]
  simp only
  rw [if_neg (by simp), if_neg (by omega)]

theorem decL_ok {s : List UInt8} (h : (decL s).2 = 0) : (decL s).1.enc = (s, 0) := by
  rw [decL] at h ⊢
  split at h
  · simp at h
  · rename_i h1
    rw [if_neg h1]
    cases hr : readL (2 * s.length) s with
    | none => rw [hr] at h; simp at h
    | some q =>
      obtain ⟨x, t⟩ := q
      rw [hr] at h
      simp only at h ⊢
      by_cases ht : t = []
      · subst ht
        rw [if_neg (by simp)] at h ⊢
        by_cases hd : 8 < x.depth
        · rw [if_pos hd] at h; simp at h
        · rw [if_neg hd]
          obtain ⟨e, hp⟩ := (read_sound _).1 _ _ _ hr
          rw [List.append_nil] at e
          have hsz := size_le_write x hp
          rw [← e] at hsz
          have hpb := (pureB_iff x).2 hp
          rw [It.enc, if_neg (by rw [hpb]; simp; omega), if_neg hd, ← e, if_neg h1]
      · rw [if_pos ht] at h; simp at h
end Go.Proofs.Ythipnbiilobjeaa

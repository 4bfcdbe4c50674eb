/- Rlp: the contract of the reference's Decode. -/
import Derived.Test.YtdeboidelgnffaaRlp20
namespace Go.Proofs.Ytdeboidelgnffaa
open Go.RowKit

theorem rsize_zero {s : List UInt8} {fr l : Nat} (h : rsizeL s = some (fr, l)) : fr = 0 → l = 1 ∧ (s.getD 0 0).toNat < 128 := by
  intro e
  cases s with
  | nil => cases h
  | cons c t =>
    simp only [rsizeL] at h
    obtain ⟨C, hC⟩ : ∃ C, C = if 192 ≤ c.toNat then c.toNat - 64 else c.toNat := ⟨_, rfl⟩
    rw [← hC] at h
    by_cases h1 : C < 128
    · rw [if_pos h1] at h
      simp at h
      refine ⟨h.2.symm, ?_⟩
      simp only [List.getD_cons_zero]
      split at hC <;> omega
    · rw [if_neg h1] at h
      by_cases h2 : C ≤ 183
      · rw [if_pos h2] at h; simp at h; omega
      · rw [if_neg h2] at h
        by_cases h3 : 3 < C - 183 ∨ t.length < C - 183
        · rw [if_pos h3] at h; cases h
        · rw [if_neg h3] at h; simp at h; omega

theorem rread_weight : ∀ f : Nat, (∀ s x m, rreadL f s = some (x, m) → x.weight ≤ 2 * m) ∧ (∀ s ks, rkidsL f s = some ks → weights ks ≤ 2 * s.length)
  | 0 => by
    refine ⟨fun s x m h => by simp [rreadL] at h, fun s ks h => ?_⟩
    cases s with
    | nil => simp [rkidsL] at h; subst h; simp [weights]
    | cons c s => simp [rkidsL] at h
  | f + 1 => by
    obtain ⟨ih1, ih2⟩ := rread_weight f
    refine ⟨fun s x m h => ?_, fun s ks h => ?_⟩
    · cases hz : rsizeL s with
      | none => rw [rreadL, hz] at h; cases h
      | some q =>
        obtain ⟨fr, l⟩ := q
        have hp := rsize_pos hz
        rw [rreadL_some hz] at h
        split at h
        · cases h
        · rename_i h1
          have hl : ((s.take (fr + l)).drop fr).length = l := by rw [List.length_drop, List.length_take]; omega
          have hfr := rsize_zero hz
          split at h
          · simp at h
            obtain ⟨rfl, rfl⟩ := h
            rw [It.weight, weights, hl]
            by_cases h0 : fr = 0
            · have := (hfr h0).1; omega
            · omega
          · rename_i h2
            split at h
            · cases h
            · rename_i ks hk
              simp at h
              obtain ⟨rfl, rfl⟩ := h
              have := ih2 _ _ hk
              rw [hl] at this
              rw [It.weight, List.length_nil]
              by_cases h0 : fr = 0
              · have := (hfr h0).2; omega
              · omega
    · cases s with
      | nil => simp [rkidsL] at h; subst h; simp [weights]
      | cons c s =>
        rw [rkidsL] at h
        cases hr : rreadL f (c :: s) with
        | none => simp [hr] at h
        | some q =>
          obtain ⟨k, m⟩ := q
          simp only [hr] at h
          cases hk : rkidsL f ((c :: s).drop m) with
          | none => simp [hk] at h
          | some ks' =>
            simp only [hk, Option.some.injEq] at h
            subst h
            have h1 := ih1 _ _ _ hr
            have h2 := ih2 _ _ hk
            have h3 := (rread_bound hr).2
            rw [List.length_drop] at h2
            rw [weights]
            omega

theorem decL_ref (s : List UInt8) (hs : s.length ≤ 4100) : decL s =
    if 4000 < s.length then ((zeroI, 2) : It × Int)
    else match rreadL (2 * s.length) s with
      | none => ((zeroI, 4) : It × Int)
      | some (x, m) => if m ≠ s.length then ((zeroI, 4) : It × Int) else if x.write ≠ s then (zeroI, 4) else if 8 < x.depth then (zeroI, 5) else (x, 0) := by
  rw [decL]
  by_cases h1 : 4000 < s.length
  · rw [if_pos h1, if_pos h1]
  · rw [if_neg h1, if_neg h1]
    have key := fun x => reads_same s hs (2 * s.length) (2 * s.length) (by omega) (by omega) x
    cases hr : rreadL (2 * s.length) s with
    | none =>
      cases hp : readL (2 * s.length) s with
      | none => rfl
      | some q =>
        obtain ⟨x, t⟩ := q
        by_cases ht : t = []
        · subst ht
          have := ((key x).1 hp).1
          rw [hr] at this
          cases this
        · simp [ht]
    | some q =>
      obtain ⟨x, m⟩ := q
      simp only
      by_cases h2 : m = s.length
      · by_cases h3 : x.write = s
        · have := (key x).2 ⟨by rw [hr, h2], h3⟩
          rw [this]
          simp [h2, h3]
        · rw [if_neg (by simp [h2]), if_pos h3]
          cases hp : readL (2 * s.length) s with
          | none => rfl
          | some q =>
            obtain ⟨y, t⟩ := q
            by_cases ht : t = []
            · subst ht
              have h4 := (key y).1 hp
              rw [hr] at h4
              simp at h4
              obtain ⟨⟨rfl, _⟩, h5⟩ := h4
              exact absurd h5 h3
            · simp [ht]
      · rw [if_pos h2]
        cases hp : readL (2 * s.length) s with
        | none => rfl
        | some q =>
          obtain ⟨y, t⟩ := q
          by_cases ht : t = []
          · subst ht
            have h4 := (key y).1 hp
            rw [hr] at h4
            simp at h4
            exact absurd h4.1.2 h2
          · simp [ht]

/-- Stores into a result's cells. -/
theorem store3 {w : World} {g : Nat} {a0 a1 a2 : Value} (G : RowAt w g #[a0, a1, a2] 24) (v0 v1 v2 : Value) :
    (w.setCell ⟨g, 0, none⟩ v0).cell? ⟨g, 0, none⟩ = some v0 ∧ ((w.setCell ⟨g, 0, none⟩ v0).setCell ⟨g, 1, none⟩ v1).cell? ⟨g, 1, none⟩ = some v1 ∧ (((w.setCell ⟨g, 0, none⟩ v0).setCell ⟨g, 1, none⟩ v1).setCell ⟨g, 2, none⟩ v2).cell? ⟨g, 2, none⟩ = some v2 := by
  have R0 := G.set 0 v0 (cs' := #[v0, a1, a2]) rfl
  have R1 := R0.set 1 v1 (cs' := #[v0, v1, a2]) rfl
  have R2 := R1.set 2 v2 (cs' := #[v0, v1, v2]) rfl
  exact ⟨R0.c3.1, R1.c3.2.1, R2.c3.2.2.1⟩

theorem below_store3 {w0 w : World} {g : Nat} (h : Below g w0 w) (v0 v1 v2 : Value) : Below g w0 (((w.setCell ⟨g, 0, none⟩ v0).setCell ⟨g, 1, none⟩ v1).setCell ⟨g, 2, none⟩ v2) :=
  ((h.setCell (p := ⟨g, 0, none⟩) (Nat.le_refl _) v0).setCell (p := ⟨g, 1, none⟩) (Nat.le_refl _) v1).setCell (p := ⟨g, 2, none⟩) (Nat.le_refl _) v2

theorem ItemP.store3 {w : World} {g : Nat} {k : It} {v : Value} (h : ItemP (fun b => g + 1 ≤ b) w k v) (v0 v1 v2 : Value) : ItemP (fun b => g ≤ b) (((w.setCell ⟨g, 0, none⟩ v0).setCell ⟨g, 1, none⟩ v1).setCell ⟨g, 2, none⟩ v2) k v := by
  refine ItemP.keep (fun a v hA hc => ⟨?_, by omega⟩) _ _ h
  have hne : a.block ≠ g := by omega
  rw [World.cell?_of_block (heap_setCell_other _ _ _ _ hne), World.cell?_of_block (heap_setCell_other _ _ _ _ hne), World.cell?_of_block (heap_setCell_other _ _ _ _ hne)]
  exact hc

set_option maxRecDepth 100000 in
set_option maxHeartbeats 4000000 in
theorem rdecode_any (s : ByteArray) (w : World) (hs : s.size ≤ 4100) : Calls Try.prog 22 #[.string s] w (DecPost (decL (bl s)) w) := by
  have hd := decL_ref (bl s) (by rw [bl_length]; exact hs)
  rw [bl_length] at hd
  have B0 : Hid (Below w.heap.size w (w.alloc zeroO)) := Lib.hid ((Below.refl _ _).alloc (Nat.le_refl _) _)
  have G0 : Hid (RowAt (w.alloc zeroO) w.heap.size #[.bool false, .string ⟨#[]⟩, .slice none 0 0] 24) := Lib.hid (RowAt.new _ _ _)
  by_cases h1 : 4000 < s.size
  · rw [if_pos h1] at hd
    rw [hd]
    clear hd
    go_enter Try.func22, Try.ntmps22
    go_wp2
    refine bodyPost_ret (v := .tuple #[.agg #[.bool false, .string ⟨#[]⟩, .slice none 0 0], .int .i64 2]) (by simp [results, Try.results22, go_sem]) rfl ?_
    exact ⟨_, rfl, zeroP, B0.out⟩
  · rw [if_neg h1] at hd
    have KR := Lib.hid (fun W => rread_any (2 * s.size) s W hs (by omega))
    cases hr : rreadL (2 * s.size) (bl s) with
    | none =>
      rw [hr] at hd KR
      rw [hd]
      clear hd hr
      go_enter Try.func22, Try.ntmps22
      go_wp2_with fail
      refine (KR.out _).mono ?_
      rintro e w2 ⟨hb, rfl⟩
      have G2 := (G0.out.belowS hb).alloc zeroO
      have B2 := (B0.out.trans (hb.mono B0.out.size)).alloc (by have := hb.size; simp at this; omega) zeroO
      obtain ⟨m0, m1, m2⟩ := store3 G2 (.bool false) (.string ⟨#[]⟩) (.slice none 0 0)
      have HB := Lib.hid (below_store3 B2 (.bool false) (.string ⟨#[]⟩) (.slice none 0 0))
      obtain ⟨c0, c1, c2, f0, f1, f2⟩ := G2.c3
      clear hb G2 B2 B0 G0 KR
      go_wp2
      refine bodyPost_ret (v := .tuple #[.agg #[.bool false, .string ⟨#[]⟩, .slice none 0 0], .int .i64 4]) (by simp [results, Try.results22, go_sem, m0, m1, m2]) rfl ?_
      exact ⟨_, rfl, zeroP, HB.out⟩
    | some q =>
      obtain ⟨x, m⟩ := q
      rw [hr] at hd KR
      simp only at hd
      have hwt := (rread_weight _).1 _ _ _ hr
      have hm := (rread_bound hr).2
      rw [bl_length] at hm
      have hwl : x.write.length ≤ 1000000000 := by have := write_le x (by omega); omega
      have hsl : x.size ≤ 1000000 := by have := size_le_weight x; omega
      have KW := Lib.hid (fun W v (hi : ItemIs W x v) => rwrite_any x.size x (Nat.le_refl _) hwl v W hi)
      have KP := Lib.hid (fun W v (hi : ItemIs W x v) => rdepth_any x.size x (Nat.le_refl _) hsl v W hi)
      clear hwt hr hwl hsl
      by_cases h2 : m = s.size
      · subst h2
        rw [if_neg (by simp)] at hd
        by_cases h3 : x.write = bl s
        · rw [if_neg (by simp [h3])] at hd
          rw [h3] at KW
          have KW2 : Hid (∀ W v, ItemIs W x v → Calls Try.prog 28 #[v] W fun e w' => e = .returned (.string s) ∧ Below W.heap.size W w') := KW
          clear KW h3
          have KW := KW2
          clear KW2
          rw [hd]
          clear hd
          generalize x.depth = d at *
          by_cases h8 : 8 < d
          · rw [if_pos h8]
            go_enter Try.func22, Try.ntmps22
            go_wp2_with fail
            refine (KR.out _).mono ?_
            rintro e w2 ⟨hb, v, rfl, hv⟩
            obtain ⟨⟨yl, yb, yp, yn, yc⟩, rfl⟩ := hv.triple
            simp only [IV.val, IV.kids] at hv ⊢
            have G := Lib.hid ((G0.out.belowS hb).alloc (ivO (yl, yb, yp, yn, yc)))
            have T : Hid (RowAt (w2.alloc (ivO (yl, yb, yp, yn, yc))) w2.heap.size #[.bool yl, .string yb, .slice yp yn yc] 24) := Lib.hid (RowAt.new _ _ _)
            have hws : w.heap.size + 1 ≤ w2.heap.size := by have := hb.size; simpa using this
            have B := Lib.hid ((B0.out.trans (hb.mono B0.out.size)).alloc (by omega) (ivO (yl, yb, yp, yn, yc)))
            have I : Hid (ItemP (fun b => w.heap.size + 1 ≤ b) (w2.alloc (ivO (yl, yb, yp, yn, yc))) x (.agg #[.bool yl, .string yb, .slice yp yn yc])) := Lib.hid (ItemP.keep (fun a v hA hc => ⟨by rw [World.cell?_of_block (Below.heap_alloc _ _ _ (block_lt_of_cell hc))]; exact hc, by simpa using hA⟩) _ _ hv)
            clear hb hv B0 G0 KR
            have KX := Lib.hid (KW.out _ _ (ItemP.is _ _ I.out))
            obtain ⟨t0, t1, t2, tf0, tf1, tf2⟩ := T.out.c3
            go_wp2_with fail
            refine KX.out.mono ?_
            rintro e w3 ⟨rfl, hb⟩
            clear t0 t1 t2 tf0 tf1 tf2
            clear KX
            replace G := Lib.hid (G.out.belowS hb)
            replace T := Lib.hid (T.out.belowS hb)
            replace B := Lib.hid (B.out.trans (hb.mono B.out.size))
            replace I : Hid (ItemP (fun b => w.heap.size + 1 ≤ b) w3 x (.agg #[.bool yl, .string yb, .slice yp yn yc])) := Lib.hid (ItemP.keep (fun a v hA hc => ⟨by rw [hb.cell (block_lt_of_cell hc)]; exact hc, hA⟩) _ _ I.out)
            clear hb
            have KX := Lib.hid (KP.out _ _ (ItemP.is _ _ I.out))
            obtain ⟨t0, t1, t2, tf0, tf1, tf2⟩ := T.out.c3
            go_wp2_with fail
            refine KX.out.mono ?_
            rintro e w4 ⟨rfl, hb⟩
            clear t0 t1 t2 tf0 tf1 tf2
            clear KX
            replace G := Lib.hid (G.out.belowS hb)
            replace T := Lib.hid (T.out.belowS hb)
            replace B := Lib.hid (B.out.trans (hb.mono B.out.size))
            replace I : Hid (ItemP (fun b => w.heap.size + 1 ≤ b) w4 x (.agg #[.bool yl, .string yb, .slice yp yn yc])) := Lib.hid (ItemP.keep (fun a v hA hc => ⟨by rw [hb.cell (block_lt_of_cell hc)]; exact hc, hA⟩) _ _ I.out)
            clear hb
            have G2 := G.out
            obtain ⟨m0, m1, m2⟩ := store3 G2 (.bool false) (.string ⟨#[]⟩) (.slice none 0 0)
            have HB := Lib.hid (below_store3 B.out (.bool false) (.string ⟨#[]⟩) (.slice none 0 0))
            obtain ⟨c0, c1, c2, f0, f1, f2⟩ := G2.c3
            clear G2 B I G KW KP
            go_wp2
            refine bodyPost_ret (v := .tuple #[.agg #[.bool false, .string ⟨#[]⟩, .slice none 0 0], .int .i64 5]) (by simp [results, Try.results22, go_sem, m0, m1, m2]) rfl ?_
            exact ⟨_, rfl, zeroP, HB.out⟩
          · rw [if_neg h8]
            go_enter Try.func22, Try.ntmps22
            go_wp2_with fail
            refine (KR.out _).mono ?_
            rintro e w2 ⟨hb, v, rfl, hv⟩
            obtain ⟨⟨yl, yb, yp, yn, yc⟩, rfl⟩ := hv.triple
            simp only [IV.val, IV.kids] at hv ⊢
            have G := Lib.hid ((G0.out.belowS hb).alloc (ivO (yl, yb, yp, yn, yc)))
            have T : Hid (RowAt (w2.alloc (ivO (yl, yb, yp, yn, yc))) w2.heap.size #[.bool yl, .string yb, .slice yp yn yc] 24) := Lib.hid (RowAt.new _ _ _)
            have hws : w.heap.size + 1 ≤ w2.heap.size := by have := hb.size; simpa using this
            have B := Lib.hid ((B0.out.trans (hb.mono B0.out.size)).alloc (by omega) (ivO (yl, yb, yp, yn, yc)))
            have I : Hid (ItemP (fun b => w.heap.size + 1 ≤ b) (w2.alloc (ivO (yl, yb, yp, yn, yc))) x (.agg #[.bool yl, .string yb, .slice yp yn yc])) := Lib.hid (ItemP.keep (fun a v hA hc => ⟨by rw [World.cell?_of_block (Below.heap_alloc _ _ _ (block_lt_of_cell hc))]; exact hc, by simpa using hA⟩) _ _ hv)
            clear hb hv B0 G0 KR
            have KX := Lib.hid (KW.out _ _ (ItemP.is _ _ I.out))
            obtain ⟨t0, t1, t2, tf0, tf1, tf2⟩ := T.out.c3
            go_wp2_with fail
            refine KX.out.mono ?_
            rintro e w3 ⟨rfl, hb⟩
            clear t0 t1 t2 tf0 tf1 tf2
            clear KX
            replace G := Lib.hid (G.out.belowS hb)
            replace T := Lib.hid (T.out.belowS hb)
            replace B := Lib.hid (B.out.trans (hb.mono B.out.size))
            replace I : Hid (ItemP (fun b => w.heap.size + 1 ≤ b) w3 x (.agg #[.bool yl, .string yb, .slice yp yn yc])) := Lib.hid (ItemP.keep (fun a v hA hc => ⟨by rw [hb.cell (block_lt_of_cell hc)]; exact hc, hA⟩) _ _ I.out)
            clear hb
            have KX := Lib.hid (KP.out _ _ (ItemP.is _ _ I.out))
            obtain ⟨t0, t1, t2, tf0, tf1, tf2⟩ := T.out.c3
            go_wp2_with fail
            refine KX.out.mono ?_
            rintro e w4 ⟨rfl, hb⟩
            clear t0 t1 t2 tf0 tf1 tf2
            clear KX
            replace G := Lib.hid (G.out.belowS hb)
            replace T := Lib.hid (T.out.belowS hb)
            replace B := Lib.hid (B.out.trans (hb.mono B.out.size))
            replace I : Hid (ItemP (fun b => w.heap.size + 1 ≤ b) w4 x (.agg #[.bool yl, .string yb, .slice yp yn yc])) := Lib.hid (ItemP.keep (fun a v hA hc => ⟨by rw [hb.cell (block_lt_of_cell hc)]; exact hc, hA⟩) _ _ I.out)
            clear hb
            have hne : ¬ w2.heap.size = w.heap.size := by omega
            obtain ⟨t0, t1, t2, tf0, tf1, tf2⟩ := T.out.c3
            clear T
            have G2 := G.out
            obtain ⟨m0, m1, m2⟩ := store3 G2 (.bool yl) (.string yb) (.slice yp yn yc)
            have HB := Lib.hid (below_store3 B.out (.bool yl) (.string yb) (.slice yp yn yc))
            obtain ⟨c0, c1, c2, f0, f1, f2⟩ := G2.c3
            have HI := Lib.hid (I.out.store3 (.bool yl) (.string yb) (.slice yp yn yc))
            clear G2 B I G KW KP
            go_wp2
            refine bodyPost_ret (v := .tuple #[.agg #[.bool yl, .string yb, .slice yp yn yc], .int .i64 0]) (by simp [results, Try.results22, go_sem, m0, m1, m2]) rfl ?_
            exact ⟨_, rfl, HI.out, HB.out⟩
        · rw [if_pos h3] at hd
          rw [hd]
          have hsq := seq_false (show mkS x.write ≠ s from fun e => h3 (by rw [← e, bl_mk]))
          clear hd h3
          generalize mkS x.write = X at *
          go_enter Try.func22, Try.ntmps22
          go_wp2_with fail
          refine (KR.out _).mono ?_
          rintro e w2 ⟨hb, v, rfl, hv⟩
          obtain ⟨⟨yl, yb, yp, yn, yc⟩, rfl⟩ := hv.triple
          simp only [IV.val, IV.kids] at hv ⊢
          have G := Lib.hid ((G0.out.belowS hb).alloc (ivO (yl, yb, yp, yn, yc)))
          have T : Hid (RowAt (w2.alloc (ivO (yl, yb, yp, yn, yc))) w2.heap.size #[.bool yl, .string yb, .slice yp yn yc] 24) := Lib.hid (RowAt.new _ _ _)
          have hws : w.heap.size + 1 ≤ w2.heap.size := by have := hb.size; simpa using this
          have B := Lib.hid ((B0.out.trans (hb.mono B0.out.size)).alloc (by omega) (ivO (yl, yb, yp, yn, yc)))
          have I : Hid (ItemP (fun b => w.heap.size + 1 ≤ b) (w2.alloc (ivO (yl, yb, yp, yn, yc))) x (.agg #[.bool yl, .string yb, .slice yp yn yc])) := Lib.hid (ItemP.keep (fun a v hA hc => ⟨by rw [World.cell?_of_block (Below.heap_alloc _ _ _ (block_lt_of_cell hc))]; exact hc, by simpa using hA⟩) _ _ hv)
          clear hb hv B0 G0 KR
          have KX := Lib.hid (KW.out _ _ (ItemP.is _ _ I.out))
          obtain ⟨t0, t1, t2, tf0, tf1, tf2⟩ := T.out.c3
          go_wp2_with fail
          refine KX.out.mono ?_
          rintro e w3 ⟨rfl, hb⟩
          clear t0 t1 t2 tf0 tf1 tf2
          clear KX
          replace G := Lib.hid (G.out.belowS hb)
          replace T := Lib.hid (T.out.belowS hb)
          replace B := Lib.hid (B.out.trans (hb.mono B.out.size))
          replace I : Hid (ItemP (fun b => w.heap.size + 1 ≤ b) w3 x (.agg #[.bool yl, .string yb, .slice yp yn yc])) := Lib.hid (ItemP.keep (fun a v hA hc => ⟨by rw [hb.cell (block_lt_of_cell hc)]; exact hc, hA⟩) _ _ I.out)
          clear hb
          have G2 := G.out
          obtain ⟨m0, m1, m2⟩ := store3 G2 (.bool false) (.string ⟨#[]⟩) (.slice none 0 0)
          have HB := Lib.hid (below_store3 B.out (.bool false) (.string ⟨#[]⟩) (.slice none 0 0))
          obtain ⟨c0, c1, c2, f0, f1, f2⟩ := G2.c3
          clear G2 B I G KW KP
          go_wp2
          refine bodyPost_ret (v := .tuple #[.agg #[.bool false, .string ⟨#[]⟩, .slice none 0 0], .int .i64 4]) (by simp [results, Try.results22, go_sem, m0, m1, m2]) rfl ?_
          exact ⟨_, rfl, zeroP, HB.out⟩
      · rw [if_pos h2] at hd
        rw [hd]
        have hne : ¬ ((m : Int) = (s.size : Int)) := by omega
        have hne2 : ((m : Int) == (s.size : Int)) = false := by simp; omega
        clear hd h2
        go_enter Try.func22, Try.ntmps22
        go_wp2_with fail
        refine (KR.out _).mono ?_
        rintro e w2 ⟨hb, v, rfl, hv⟩
        obtain ⟨⟨yl, yb, yp, yn, yc⟩, rfl⟩ := hv.triple
        simp only [IV.val, IV.kids] at hv ⊢
        have G := Lib.hid ((G0.out.belowS hb).alloc (ivO (yl, yb, yp, yn, yc)))
        have T : Hid (RowAt (w2.alloc (ivO (yl, yb, yp, yn, yc))) w2.heap.size #[.bool yl, .string yb, .slice yp yn yc] 24) := Lib.hid (RowAt.new _ _ _)
        have hws : w.heap.size + 1 ≤ w2.heap.size := by have := hb.size; simpa using this
        have B := Lib.hid ((B0.out.trans (hb.mono B0.out.size)).alloc (by omega) (ivO (yl, yb, yp, yn, yc)))
        have I : Hid (ItemP (fun b => w.heap.size + 1 ≤ b) (w2.alloc (ivO (yl, yb, yp, yn, yc))) x (.agg #[.bool yl, .string yb, .slice yp yn yc])) := Lib.hid (ItemP.keep (fun a v hA hc => ⟨by rw [World.cell?_of_block (Below.heap_alloc _ _ _ (block_lt_of_cell hc))]; exact hc, by simpa using hA⟩) _ _ hv)
        clear hb hv B0 G0 KR
        have G2 := G.out
        obtain ⟨m0, m1, m2⟩ := store3 G2 (.bool false) (.string ⟨#[]⟩) (.slice none 0 0)
        have HB := Lib.hid (below_store3 B.out (.bool false) (.string ⟨#[]⟩) (.slice none 0 0))
        obtain ⟨c0, c1, c2, f0, f1, f2⟩ := G2.c3
        clear G2 B I G KW KP
        go_wp2
        refine bodyPost_ret (v := .tuple #[.agg #[.bool false, .string ⟨#[]⟩, .slice none 0 0], .int .i64 4]) (by simp [results, Try.results22, go_sem, m0, m1, m2]) rfl ?_
        exact ⟨_, rfl, zeroP, HB.out⟩
end Go.Proofs.Ytdeboidelgnffaa

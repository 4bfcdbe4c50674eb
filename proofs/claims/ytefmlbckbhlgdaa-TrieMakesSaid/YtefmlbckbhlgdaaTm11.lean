/- The trie: walk, its first steps. The trie: walk at a joint, at a branch, at what is neither. The trie: walk at a branch. The trie: walk at a branch that bears a value; walk, all of it. The trie: pairs, walked. Regions that draw their order: reads and effects in any row that one likes, then a tail in one order. -/
import Derived.Test.YtefmlbckbhlgdaaTm6
import Derived.Test.YtefmlbckbhlgdaaTm10
namespace Go.Proofs.Ytefmlbckbhlgdaa
open Go.RowKit Go.Shelf
set_option maxRecDepth 100000
/-- The row of nodes lies apart from the row that is filled. -/
def ARN (w : World) (ko : Nat) (sv u : Value) (ns : List Nd) : Prop := RN w u ns ∧ (ns = [] ∨ ∀ b, u.ownBlock = some b → b ≠ ko ∧ sv.ownBlock ≠ some b)
theorem RN.blk {w : World} {v : Value} {l : List Nd} (h : RN w v l) (hl : l ≠ []) : ∀ b, v.ownBlock = some b → b < w.heap.size := fun b e => by
  rcases h with ⟨_, h⟩ | ⟨a, cap, rfl, h1, h2, hc⟩
  · exact absurd h hl
  · cases l with
    | nil => exact absurd rfl hl
    | cons p l =>
      have h0 := block_lt_of_cell (hc 0 (.int .i64 p.kind) rfl)
      have hb : (a.add 0).block = a.block := by rw [Addr.add_zero']
      simp only [Value.ownBlock, Option.some.injEq] at e
      omega
theorem RN.keep {w w' : World} {v : Value} {l : List Nd} (h : RN w v l) (hk : l ≠ [] → ∀ b, v.ownBlock = some b → w'.heap[b]? = w.heap[b]?) : RN w' v l := by
  rcases h with h | ⟨a, cap, rfl, h1, h2, hc⟩
  · exact .inl h
  · refine .inr ⟨a, cap, rfl, h1, h2, fun j u hj => ?_⟩
    have hl : l ≠ [] := fun e => by subst e; simp [flat] at hj
    have hb : (a.add j).block = a.block := by unfold Addr.add; split <;> rfl
    exact (World.cell?_of_block (w := w) (w' := w') (a := a.add j) (by rw [hb]; exact hk hl a.block rfl)).trans (hc j u hj)
theorem ARN.rn {w : World} {ko : Nat} {sv u : Value} {ns : List Nd} (h : ARN w ko sv u ns) : RN w u ns := h.1
theorem ARN.below {w w' : World} {ko : Nat} {sv u : Value} {ns : List Nd} (h : ARN w ko sv u ns) (hb : Below w.heap.size w w') : ARN w' ko sv u ns := ⟨RN.below h.1 hb (Nat.le_refl _), h.2⟩
theorem ARN.step {w w' : World} {ko : Nat} {sv sv' u : Value} {ns : List Nd} (h : ARN w ko sv u ns) (ha : AK ko sv.ownBlock w w') (hf : Fr w sv sv') : ARN w' ko sv' u ns := by
  obtain ⟨h1, h2⟩ := h
  refine ⟨h1.keep fun hl b e => ?_, ?_⟩
  · rcases h2 with h2 | h2
    · exact absurd h2 hl
    · obtain ⟨x1, x3⟩ := h2 b e
      exact ha.block b (h1.blk hl b e) x1 (fun e => x3 e.symm)
  · by_cases hl : ns = []
    · exact .inl hl
    · rcases h2 with h2 | h2
      · exact .inl h2
      · exact .inr fun b e => ⟨(h2 b e).1, hf.ne (h1.blk hl b e) (h2 b e).2⟩
abbrev fnY (ko : Nat) : Value := .func (.func 69) #[] #[.pointer (some ⟨ko, 0, none⟩)]
def WalkC (ns : List Nd) (f : Nat) : Prop := ∀ (ko : Nat) (u : Value) (r i : Int) (part : List UInt8) (out : List Pr) (sv : Value) (w : World), OS w ko sv out → ARN w ko sv u ns → i < f → part.length ≤ 281474976710656 → out.length ≤ 64 →
  Calls Try.prog 68 #[.agg #[u, .int .i64 r], .int .i64 i, .string (mkS part), fnY ko] w (FillAns ko sv (walkF ns f i part out) w)
theorem FillAns.of {w W w' : World} {ko : Nat} {sv : Value} {r : List Pr × Bool} {e : Ending} (hb : Below w.heap.size w W) (h : FillAns ko sv r W e w') : FillAns ko sv r w e w' := by
  obtain ⟨sv', h1, h2, h3, h4⟩ := h
  exact ⟨sv', h1, h2, (AK.ofBelow hb).same h3, fun g e => (h4 g e).imp id (fun h => Nat.le_trans hb.size h)⟩
theorem FillAns.no {w w' : World} {ko : Nat} {sv : Value} {out : List Pr} (hs : OS w ko sv out) (hb : Below w.heap.size w w') : FillAns ko sv (out, false) w (.returned (.bool false)) w' :=
  ⟨sv, rfl, hs.below hb, AK.ofBelow hb, Fr.refl _ _⟩
theorem mkS_append (a b : List UInt8) : mkS a ++ mkS b = mkS (a ++ b) := by
  apply bl_inj
  rw [bl_append, bl_mk, bl_mk, bl_mk]

/-- A walk that refuses at once. -/
theorem walk_no1 (ns : List Nd) (ko : Nat) (u : Value) (r i : Int) (part : List UInt8) (out : List Pr) (sv : Value) (w : World) (hs : OS w ko sv out) (hr : ARN w ko sv u ns) (_hp : part.length ≤ 281474976710656) (hi : i < 0) :
    Calls Try.prog 68 #[.agg #[u, .int .i64 r], .int .i64 i, .string (mkS part), fnY ko] w (FillAns ko sv (out, false) w) := by
  obtain ⟨p, c, rfl, z1, z2⟩ := RowE.shape encN hr.1
  have HB := Lib.hid ((Below.refl w.heap.size w).alloc (Nat.le_refl _) (.cells #[.slice p ns.length c, .int .i64 r] 37))
  have HS := Lib.hid hs
  clear hs hr
  go_enter Try.func68, Try.ntmps68
  go_wp2
  go_ret
  exact FillAns.no HS.out HB.out
theorem walk_no2 (ns : List Nd) (ko : Nat) (u : Value) (r : Int) (i : Nat) (part : List UInt8) (out : List Pr) (sv : Value) (w : World) (hs : OS w ko sv out) (hr : ARN w ko sv u ns) (_hp : part.length ≤ 281474976710656) (hi : ns.length ≤ i) (hi2 : i ≤ 9223372036854775807) :
    Calls Try.prog 68 #[.agg #[u, .int .i64 r], .int .i64 i, .string (mkS part), fnY ko] w (FillAns ko sv (out, false) w) := by
  obtain ⟨p, c, rfl, z1, z2⟩ := RowE.shape encN hr.1
  have HB := Lib.hid ((Below.refl w.heap.size w).alloc (Nat.le_refl _) (.cells #[.slice p ns.length c, .int .i64 r] 37))
  have HS := Lib.hid hs
  have R1 := (RowAt.new w #[.slice p ns.length c, .int .i64 r] 37).c2.1
  have g1 : ¬ (i : Int) < 0 := by omega
  have g2 : (ns.length : Int) ≤ i := by omega
  clear hs hr
  go_enter Try.func68, Try.ntmps68
  go_wp2
  go_ret
  exact FillAns.no HS.out HB.out
theorem walk_no3 (ns : List Nd) (ko : Nat) (u : Value) (r : Int) (i : Nat) (part : List UInt8) (out : List Pr) (sv : Value) (w : World) (hs : OS w ko sv out) (hr : ARN w ko sv u ns) (hp : part.length ≤ 281474976710656) (hi : i < ns.length) (hpl : 64 < part.length) :
    Calls Try.prog 68 #[.agg #[u, .int .i64 r], .int .i64 i, .string (mkS part), fnY ko] w (FillAns ko sv (out, false) w) := by
  obtain ⟨p, c, rfl, z1, z2⟩ := RowE.shape encN hr.1
  have HB := Lib.hid ((Below.refl w.heap.size w).alloc (Nat.le_refl _) (.cells #[.slice p ns.length c, .int .i64 r] 37))
  have HS := Lib.hid hs
  have R1 := (RowAt.new w #[.slice p ns.length c, .int .i64 r] 37).c2.1
  have g1 : ¬ (i : Int) < 0 := by omega
  have g2 : decide (ns.length ≤ i) = false := decide_eq_false (by omega)
  have hsz := mk_size part
  have g3 : decide ((64 : Int) < part.length) = true := decide_eq_true (by omega)
  clear hs hr hi
  go_enter Try.func68, Try.ntmps68
  go_wp2
  go_ret
  exact FillAns.no HS.out HB.out

set_option maxHeartbeats 8000000 in
theorem walk_leaf (ns : List Nd) (ko : Nat) (u : Value) (r : Int) (i : Nat) (n : Nd) (part : List UInt8) (out : List Pr) (sv : Value) (w : World) (hs : OS w ko sv out) (hr : ARN w ko sv u ns) (hp : part.length ≤ 64) (hn : ns[i]? = some n) (hk : n.kind = 1) (hpn : n.part.length ≤ 140737488351232) (ho : out.length ≤ 64) :
    Calls Try.prog 68 #[.agg #[u, .int .i64 r], .int .i64 i, .string (mkS part), fnY ko] w (FillAns ko sv (yieldL out (part ++ n.part) n.value) w) := by
  have eg : ∀ args w, (callFunc 69 args).run Try.prog w = .ok (.enter 69 args) w := fun args w => by kernel_rfl
  have hi : i < ns.length := (List.getElem?_eq_some_iff.1 hn).1
  obtain ⟨p, c, rfl, z1, z2⟩ := RowE.shape encN hr.1
  have HB := Lib.hid ((Below.refl w.heap.size w).alloc (Nat.le_refl _) (.cells #[.slice p ns.length c, .int .i64 r] 37))
  have HS := Lib.hid hs
  have HR := Lib.hid hr
  have RB := Lib.hid (RowAt.new w #[.slice p ns.length c, .int .i64 r] 37)
  have R1 := RB.out.c2.1
  have g1 : ¬ (i : Int) < 0 := by omega
  have g2 : decide (ns.length ≤ i) = false := decide_eq_false (by omega)
  have hsz := mk_size part
  have g3 : decide ((64 : Int) < part.length) = false := decide_eq_false (by omega)
  have hil : (i : Int) < ns.length := by omega
  have KY := Lib.hid (fun W (h : OS W ko sv out) => yield_any (part ++ n.part) n.value out ko sv W h (by rw [List.length_append]; omega) ho)
  have hap := mkS_append part n.part
  have hszn := mk_size n.part
  obtain ⟨a, rfl, hnd⟩ := NdAt.ofRowE (RN.below HR.out.1 HB.out (Nat.le_refl _)) hn
  have HN := Lib.hid hnd
  clear hs hr hn hnd
  go_enter Try.func68, Try.ntmps68
  go_upto_region 4 with (first
    | (refine wpList_load_nd rfl _ rfl _ n rfl HN.out ?_)
    | (refine wpList_store_nd rfl _ _ rfl (w.heap.size + 1) n rfl rfl _ (RowAt.new' _ _ _ (by simp)) rfl ?_; intro w3 hr3 hb3 ho3 hs3; have R := Lib.hid hr3; replace HB := Lib.hid (hb3 w.heap.size w (HB.out.alloc HB.out.size _) (Nat.le_succ _)); clear hr3 hb3 ho3 hs3))
  have HS3 := Lib.hid (HS.out.below HB.out)
  obtain ⟨c0, c1, c2, -⟩ := R.out.nd
  rw [hk] at c0
  clear R1 RB HN HR HS
  go_wp2_with (go_at_fn 69; (with_reducible refine (KY.out w3 HS3.out).mono ?_); rintro e w4 ⟨sv4, rfl, hs4, hk4, hf4⟩)
  go_ret
  exact FillAns.of HB.out ⟨sv4, rfl, hs4, hk4, hf4⟩
end Go.Proofs.Ytefmlbckbhlgdaa
namespace Go.Proofs.Ytefmlbckbhlgdaa
open Go.RowKit Go.Shelf
set_option maxRecDepth 100000
set_option maxHeartbeats 8000000 in
theorem walk_else (ns : List Nd) (ko : Nat) (u : Value) (r : Int) (i : Nat) (n : Nd) (part : List UInt8) (out : List Pr) (sv : Value) (w : World) (hs : OS w ko sv out) (hr : ARN w ko sv u ns) (hp : part.length ≤ 64) (hn : ns[i]? = some n) (k1 : n.kind ≠ 1) (k2 : n.kind ≠ 2) (k3 : n.kind ≠ 3) : Calls Try.prog 68 #[.agg #[u, .int .i64 r], .int .i64 i, .string (mkS part), fnY ko] w (FillAns ko sv (out, false) w) := by
  have HS0 := Lib.hid hs
  have hi : i < ns.length := (List.getElem?_eq_some_iff.1 hn).1
  obtain ⟨p, c, rfl, z1, z2⟩ := RowE.shape encN hr.1
  have HB := Lib.hid ((Below.refl w.heap.size w).alloc (Nat.le_refl _) (.cells #[.slice p ns.length c, .int .i64 r] 37))
  have HS := Lib.hid hs
  have HR := Lib.hid hr
  have RB := Lib.hid (RowAt.new w #[.slice p ns.length c, .int .i64 r] 37)
  have R1 := RB.out.c2.1
  have g1 : ¬ (i : Int) < 0 := by omega
  have g2 : decide (ns.length ≤ i) = false := decide_eq_false (by omega)
  have hsz := mk_size part
  have g3 : decide ((64 : Int) < part.length) = false := decide_eq_false (by omega)
  have hil : (i : Int) < ns.length := by omega
  obtain ⟨a, rfl, hnd⟩ := NdAt.ofRowE (RN.below HR.out.1 HB.out (Nat.le_refl _)) hn
  have HN := Lib.hid hnd
  clear hs hr hn hnd
  go_enter Try.func68, Try.ntmps68
  go_upto_region 4 with (first
    | (refine wpList_load_nd rfl _ rfl _ n rfl HN.out ?_)
    | (refine wpList_store_nd rfl _ _ rfl (w.heap.size + 1) n rfl rfl _ (RowAt.new' _ _ _ (by simp)) rfl ?_; intro w3 hr3 hb3 ho3 hs3; have R := Lib.hid hr3; replace RB := Lib.hid (show RowAt w3 w.heap.size _ _ from (ho3 _ (by omega)).trans (RB.out.alloc _)); replace HB := Lib.hid (hb3 w.heap.size w (HB.out.alloc HB.out.size _) (Nat.le_succ _)); clear hr3 hb3 ho3 hs3))
  have HS3 := Lib.hid (HS.out.below HB.out)
  have HR3 := Lib.hid (HR.out.below HB.out)
  obtain ⟨c0, c1, c2, -⟩ := R.out.nd
  clear R1 HN HR HS
  go_wp2
  go_ret
  exact FillAns.no HS0.out HB.out

set_option maxHeartbeats 8000000 in
theorem walk_joint (ns : List Nd) (ko : Nat) (u : Value) (r : Int) (i : Nat) (n : Nd) (part : List UInt8) (out : List Pr) (sv : Value) (w : World) (hs : OS w ko sv out) (hr : ARN w ko sv u ns) (hp : part.length ≤ 64) (hn : ns[i]? = some n) (hk : n.kind = 2) (hpn : n.part.length ≤ 140737488351232) (R9 : List Pr × Bool) (hlt : n.kids.getD 0 0 < i)
    (KW : ∀ u W, OS W ko sv out → ARN W ko sv u ns → Calls Try.prog 68 #[.agg #[u, .int .i64 r], .int .i64 (n.kids.getD 0 0), .string (mkS (part ++ n.part)), fnY ko] W (FillAns ko sv R9 W)) : Calls Try.prog 68 #[.agg #[u, .int .i64 r], .int .i64 i, .string (mkS part), fnY ko] w (FillAns ko sv R9 w) := by
  have hap := mkS_append part n.part
  have hszn := mk_size n.part
  generalize hkz : n.kids.getD 0 0 = k0 at *
  replace hkz := Lib.hid hkz
  replace KW := Lib.hid KW
  have hi : i < ns.length := (List.getElem?_eq_some_iff.1 hn).1
  obtain ⟨p, c, rfl, z1, z2⟩ := RowE.shape encN hr.1
  have HB := Lib.hid ((Below.refl w.heap.size w).alloc (Nat.le_refl _) (.cells #[.slice p ns.length c, .int .i64 r] 37))
  have HS := Lib.hid hs
  have HR := Lib.hid hr
  have RB := Lib.hid (RowAt.new w #[.slice p ns.length c, .int .i64 r] 37)
  have R1 := RB.out.c2.1
  have g1 : ¬ (i : Int) < 0 := by omega
  have g2 : decide (ns.length ≤ i) = false := decide_eq_false (by omega)
  have hsz := mk_size part
  have g3 : decide ((64 : Int) < part.length) = false := decide_eq_false (by omega)
  have hil : (i : Int) < ns.length := by omega
  obtain ⟨a, rfl, hnd⟩ := NdAt.ofRowE (RN.below HR.out.1 HB.out (Nat.le_refl _)) hn
  have HN := Lib.hid hnd
  clear hs hr hn hnd
  go_enter Try.func68, Try.ntmps68
  go_upto_region 4 with (first
    | (refine wpList_load_nd rfl _ rfl _ n rfl HN.out ?_)
    | (refine wpList_store_nd rfl _ _ rfl (w.heap.size + 1) n rfl rfl _ (RowAt.new' _ _ _ (by simp)) rfl ?_; intro w3 hr3 hb3 ho3 hs3; have R := Lib.hid hr3; replace RB := Lib.hid (show RowAt w3 w.heap.size _ _ from (ho3 _ (by omega)).trans (RB.out.alloc _)); replace HB := Lib.hid (hb3 w.heap.size w (HB.out.alloc HB.out.size _) (Nat.le_succ _)); clear hr3 hb3 ho3 hs3))
  have HS3 := Lib.hid (HS.out.below HB.out)
  have HR3 := Lib.hid (HR.out.below HB.out)
  obtain ⟨c0, c1, c2, -⟩ := R.out.nd
  clear R1 HN HR HS
  rw [hk] at c0
  have c3 : w3.cell? ⟨w.heap.size + 1, 3, none⟩ = some (.int .i64 k0) := by rw [← hkz.out]; exact (R.out.ndK 0 (by omega)).1
  obtain ⟨b0, b1, -, -⟩ := RB.out.c2
  clear R RB
  go_wp2_with (go_at_call 68; (with_reducible refine (KW.out _ w3 HS3.out HR3.out).mono ?_); rintro e w4 ⟨sv4, rfl, hs4, hk4, hf4⟩)
  go_ret
  exact FillAns.of HB.out ⟨sv4, rfl, hs4, hk4, hf4⟩
set_option maxHeartbeats 8000000 in
theorem walk_jointN (ns : List Nd) (ko : Nat) (u : Value) (r : Int) (i : Nat) (n : Nd) (part : List UInt8) (out : List Pr) (sv : Value) (w : World) (hs : OS w ko sv out) (hr : ARN w ko sv u ns) (hp : part.length ≤ 64) (hn : ns[i]? = some n) (hk : n.kind = 2) (hlt : ¬ n.kids.getD 0 0 < i) : Calls Try.prog 68 #[.agg #[u, .int .i64 r], .int .i64 i, .string (mkS part), fnY ko] w (FillAns ko sv (out, false) w) := by
  have HS0 := Lib.hid hs
  generalize hkz : n.kids.getD 0 0 = k0 at *
  replace hkz := Lib.hid hkz
  have hi : i < ns.length := (List.getElem?_eq_some_iff.1 hn).1
  obtain ⟨p, c, rfl, z1, z2⟩ := RowE.shape encN hr.1
  have HB := Lib.hid ((Below.refl w.heap.size w).alloc (Nat.le_refl _) (.cells #[.slice p ns.length c, .int .i64 r] 37))
  have HS := Lib.hid hs
  have HR := Lib.hid hr
  have RB := Lib.hid (RowAt.new w #[.slice p ns.length c, .int .i64 r] 37)
  have R1 := RB.out.c2.1
  have g1 : ¬ (i : Int) < 0 := by omega
  have g2 : decide (ns.length ≤ i) = false := decide_eq_false (by omega)
  have hsz := mk_size part
  have g3 : decide ((64 : Int) < part.length) = false := decide_eq_false (by omega)
  have hil : (i : Int) < ns.length := by omega
  obtain ⟨a, rfl, hnd⟩ := NdAt.ofRowE (RN.below HR.out.1 HB.out (Nat.le_refl _)) hn
  have HN := Lib.hid hnd
  clear hs hr hn hnd
  go_enter Try.func68, Try.ntmps68
  go_upto_region 4 with (first
    | (refine wpList_load_nd rfl _ rfl _ n rfl HN.out ?_)
    | (refine wpList_store_nd rfl _ _ rfl (w.heap.size + 1) n rfl rfl _ (RowAt.new' _ _ _ (by simp)) rfl ?_; intro w3 hr3 hb3 ho3 hs3; have R := Lib.hid hr3; replace RB := Lib.hid (show RowAt w3 w.heap.size _ _ from (ho3 _ (by omega)).trans (RB.out.alloc _)); replace HB := Lib.hid (hb3 w.heap.size w (HB.out.alloc HB.out.size _) (Nat.le_succ _)); clear hr3 hb3 ho3 hs3))
  have HS3 := Lib.hid (HS.out.below HB.out)
  have HR3 := Lib.hid (HR.out.below HB.out)
  obtain ⟨c0, c1, c2, -⟩ := R.out.nd
  clear R1 HN HR HS
  rw [hk] at c0
  have c3 : w3.cell? ⟨w.heap.size + 1, 3, none⟩ = some (.int .i64 k0) := by rw [← hkz.out]; exact (R.out.ndK 0 (by omega)).1
  clear R RB
  go_wp2
  go_ret
  exact FillAns.no HS0.out HB.out
end Go.Proofs.Ytefmlbckbhlgdaa
namespace Go.Proofs.Ytefmlbckbhlgdaa
open Go.RowKit Go.Shelf
set_option maxRecDepth 100000
/-- A node's kids as a value. -/
def kdc (n : Nd) : Array Value := #[kidV n 0, kidV n 1, kidV n 2, kidV n 3, kidV n 4, kidV n 5, kidV n 6, kidV n 7, kidV n 8, kidV n 9, kidV n 10, kidV n 11, kidV n 12, kidV n 13, kidV n 14, kidV n 15]
theorem kdc_size (n : Nd) : (kdc n).size = 16 := rfl
theorem kdc_at (n : Nd) (i : Nat) (hi : i < 16) : (kdc n)[i]? = some (kidV n i) := by
  have : i = 0 ∨ i = 1 ∨ i = 2 ∨ i = 3 ∨ i = 4 ∨ i = 5 ∨ i = 6 ∨ i = 7 ∨ i = 8 ∨ i = 9 ∨ i = 10 ∨ i = 11 ∨ i = 12 ∨ i = 13 ∨ i = 14 ∨ i = 15 := by omega
  rcases this with rfl | rfl | rfl | rfl | rfl | rfl | rfl | rfl | rfl | rfl | rfl | rfl | rfl | rfl | rfl | rfl <;> rfl
theorem index_kids {n : Nd} {c : Nat} {k : Int} (hc : c < 16) (hk : (kdc n)[c]? = some (.int .i64 k)) (w : World) : (Instr.index 86 (.agg (kdc n)) (.int .i64 c)).run Try.prog w = .ok (.int .i64 k) w := by
  have hu := Try.underlying86
  have hci : (Try.prog.info? 3).map (fun i => i.size) = some 1 := by kernel_rfl
  obtain ⟨i0, hi0, hs0⟩ := Option.map_eq_some_iff.1 hci
  have hg : Try.prog.underlying 3 = some (.int .i64) := by kernel_rfl
  have hp : (part 3 (kdc n) c).run Try.prog w = .ok (.int .i64 k) w := by simp [part, go_sem, hk]
  have h16 : (c : Int) < 16 := by omega
  simp [Instr.index, asIntOf, run_underlying hu, sizeOf, typeInfo, hi0, hs0, hp]
  intro h
  omega
theorem size_kids : (Try.prog.info? 86).map (·.size) = some 16 := by kernel_rfl
theorem wpList_load_kids {ops : Array Oper} {rest : List Oper} {o : Oper} {a : Act} {w : World} {Q : Exit → Act → World → Prop} (hgd : o.guard = none) (x : Operand) (ho : o.op = .load 86 x)
    (k : Nat) (n : Nd) (hx : a.eval x = .pointer (some ⟨k, 3, none⟩)) (hn : RowAt w k (ndc n) 88) (h : wpList Try.prog ops Q rest (a.put o.dst (.agg (kdc n))) w) : wpList Try.prog ops Q (o :: rest) a w := by
  refine wpList_plain hgd fun _ hK => ?_
  unfold Oper.wp execOp
  simp only [ho, hx, Instr.loadAt, Instr.sureAddr, Sem.run_bind, Sem.run_pure, Result.andThen_ok, run_loadVar_at w _ ⟨k, 3, none⟩ (kdc n) _ (fun j u hj => by
    have hlt : j < 16 := by have := (Array.getElem?_eq_some_iff.1 hj).1; rw [kdc_size] at this; exact this
    rw [kdc_at n j hlt] at hj
    have hadd : (⟨k, 3, none⟩ : Addr).add j = ⟨k, 3 + j, none⟩ := by unfold Addr.add; split <;> simp_all
    rw [hadd, (hn.ndK j hlt).1]
    exact hj) Try.underlying86 rfl size_kids]
  exact hK _ _ h
theorem kidsW_few (go : Int → List UInt8 → List Pr → List Pr × Bool) (hgo : ∀ k p out, (go k p out).2 = true → out.length ≤ 64 → (go k p out).1.length ≤ 64) (i : Int) (part : List UInt8) : ∀ (ks : List Int) (c : Nat) (out : List Pr), (kidsW go i part ks c out).2 = true → out.length ≤ 64 → (kidsW go i part ks c out).1.length ≤ 64
  | [], _, _, _, h => h
  | k :: ks, c, out, hh, h => by
    rw [kidsW] at hh ⊢
    split at hh
    · rename_i e; rw [if_pos e]; exact kidsW_few go hgo i part ks (c + 1) out hh h
    · rename_i e
      rw [if_neg e]
      split at hh
      · rename_i e2
        rw [if_pos e2]
        simp only at hh ⊢
        split at hh
        · rename_i e3
          rw [if_pos e3]
          exact kidsW_few go hgo i part ks (c + 1) _ hh (hgo _ _ _ e3 h)
        · cases hh
      · cases hh
theorem yield_few {out : List Pr} {p v : List UInt8} (h : (yieldL out p v).2 = true) : (yieldL out p v).1.length ≤ 64 := by
  rw [yield_ok] at h
  simp only [Bool.and_eq_true, decide_eq_true_eq] at h
  show (out ++ _).length ≤ 64
  rw [List.length_append]
  exact h.2.2
theorem walkF_few (ns : List Nd) : ∀ (f : Nat) (k : Int) (p : List UInt8) (out : List Pr), (walkF ns f k p out).2 = true → out.length ≤ 64 → (walkF ns f k p out).1.length ≤ 64
  | 0, _, _, _, h, _ => by cases h
  | f + 1, k, p, out, h, ho => by
    rw [walkF] at h ⊢
    split at h
    · cases h
    · rename_i e0
      rw [if_neg e0]
      split at h
      · cases h
      · rename_i n hn
        by_cases h1 : 64 < p.length
        · rw [if_pos h1] at h; cases h
        · rw [if_neg h1] at h ⊢
          by_cases h2 : n.kind = 1
          · rw [if_pos h2] at h ⊢; exact yield_few h
          · rw [if_neg h2] at h ⊢
            by_cases h3 : n.kind = 2
            · rw [if_pos h3] at h ⊢
              by_cases h4 : n.kids.getD 0 0 < k
              · rw [if_pos h4] at h ⊢; exact walkF_few ns f _ _ _ h ho
              · rw [if_neg h4] at h; cases h
            · rw [if_neg h3] at h ⊢
              by_cases h5 : n.kind = 3
              · rw [if_pos h5] at h ⊢
                by_cases h6 : n.value = []
                · rw [if_pos h6] at h ⊢; exact kidsW_few _ (fun k p out => walkF_few ns f k p out) _ _ _ _ _ h ho
                · rw [if_neg h6] at h ⊢
                  simp only at h ⊢
                  by_cases h7 : (yieldL out p n.value).2 = true
                  · rw [if_pos h7] at h ⊢; exact kidsW_few _ (fun k p out => walkF_few ns f k p out) _ _ _ _ _ h (yield_few h7)
                  · rw [if_neg h7] at h; cases h
              · rw [if_neg h5] at h; cases h
theorem kids_drop {n : Nd} (h : n.kids.length = 16) {c : Nat} (hc : c < 16) : n.kids.drop c = n.kids.getD c 0 :: n.kids.drop (c + 1) := by
  rw [List.drop_eq_getElem_cons (by omega), List.getD_eq_getElem?_getD, List.getElem?_eq_getElem (by omega)]
  rfl

set_option maxHeartbeats 8000000 in
theorem walk_branchA (ns : List Nd) (ko : Nat) (u : Value) (r : Int) (i : Nat) (n : Nd) (part : List UInt8) (out : List Pr) (sv : Value) (w : World) (hs : OS w ko sv out) (hr : ARN w ko sv u ns) (hp : part.length ≤ 64) (hn : ns[i]? = some n) (f : Nat) (hk : n.kind = 3) (hkl : n.kids.length = 16) (hv : n.value = []) (ho : out.length ≤ 64)
    (KW : ∀ c, c < 16 → ∀ out1 : List Pr, out1.length ≤ 64 → n.kids.getD c 0 < i → ∀ sv1 u W, OS W ko sv1 out1 → ARN W ko sv1 u ns → Calls Try.prog 68 #[.agg #[u, .int .i64 r], .int .i64 (n.kids.getD c 0), .string (mkS (part ++ [UInt8.ofNat c])), fnY ko] W (FillAns ko sv1 (walkF ns f (n.kids.getD c 0) (part ++ [UInt8.ofNat c]) out1) W)) : Calls Try.prog 68 #[.agg #[u, .int .i64 r], .int .i64 i, .string (mkS part), fnY ko] w (FillAns ko sv (kidsW (walkF ns f) i part n.kids 0 out) w) := by
  have HK : Hid (kidsW (walkF ns f) i part (n.kids.drop 0) 0 out = kidsW (walkF ns f) i part n.kids 0 out) := Lib.hid rfl
  generalize kidsW (walkF ns f) i part n.kids 0 out = K0 at *
  have HKD := Lib.hid (fun c (hc : c < 16) => kids_drop hkl hc)
  have HKB := Lib.hid (show w.heap.size ≠ ko ∧ sv.ownBlock ≠ some w.heap.size ∧ w.heap.size < w.heap.size + 1 from ⟨fun e => by have := hs.1.lt; omega, fun e => by have := (hs.own _ e).2; omega, Nat.lt_succ_self _⟩)
  have HKA := Lib.hid (fun c (hc : c < 16) => kdc_at n c hc)
  replace KW := Lib.hid KW
  replace hkl := Lib.hid hkl
  have hve : (mkS n.value).toList.isEmpty = true := by rw [mkS_toList, hv]; rfl
  clear hv
  have HL := ho
  have hi : i < ns.length := (List.getElem?_eq_some_iff.1 hn).1
  obtain ⟨p, cp, rfl, z1, z2⟩ := RowE.shape encN hr.1
  have HB := Lib.hid ((Below.refl w.heap.size w).alloc (Nat.le_refl _) (.cells #[.slice p ns.length cp, .int .i64 r] 37))
  have HS := Lib.hid hs
  have HR := Lib.hid hr
  have RB := Lib.hid (RowAt.new w #[.slice p ns.length cp, .int .i64 r] 37)
  have R1 := RB.out.c2.1
  have g1 : ¬ (i : Int) < 0 := by omega
  have g2 : decide (ns.length ≤ i) = false := decide_eq_false (by omega)
  have hsz := mk_size part
  have g3 : decide ((64 : Int) < part.length) = false := decide_eq_false (by omega)
  have hil : (i : Int) < ns.length := by omega
  obtain ⟨a, rfl, hnd⟩ := NdAt.ofRowE (RN.below HR.out.1 HB.out (Nat.le_refl _)) hn
  have HN := Lib.hid hnd
  clear hs hr hn hnd
  go_enter Try.func68, Try.ntmps68
  go_upto_region 4 with (first
    | (refine wpList_load_nd rfl _ rfl _ n rfl HN.out ?_)
    | (refine wpList_store_nd rfl _ _ rfl (w.heap.size + 1) n rfl rfl _ (RowAt.new' _ _ _ (by simp)) rfl ?_; intro w3 hr3 hb3 ho3 hs3; have R := Lib.hid hr3; replace RB := Lib.hid (show RowAt w3 w.heap.size _ _ from (ho3 _ (by omega)).trans (RB.out.alloc _)); replace HB := Lib.hid (hb3 w.heap.size w (HB.out.alloc HB.out.size _) (Nat.le_succ _)); clear hr3 hb3 ho3 hs3))
  have HS3 := Lib.hid (HS.out.below HB.out)
  have HR3 := Lib.hid (HR.out.below HB.out)
  obtain ⟨c0, c1, c2, -⟩ := R.out.nd
  clear R1 HN HR HS
  rw [hk] at c0
  go_upto_region 13 with (refine wpList_load_kids rfl _ rfl (w.heap.size + 1) n rfl R.out ?_)
  have AK0 := Lib.hid (AK.ofBelow (ka := ko) (r := sv.ownBlock) HB.out)
  have F0 := Lib.hid (Fr.refl w sv)
  have B0 := Lib.hid HKB.out.2.1
  have HS := HS3
  have HR := HR3
  clear HS3 HR3 HB R c0 c1 c2
  go_loopw [77] (fun s wr => ∃ (c : Nat) (out1 : List Pr) (sv1 : Value), c ≤ 16 ∧ s = .int .i64 c ∧ out1.length ≤ 64 ∧ Hid (kidsW (walkF ns f) i part (n.kids.drop c) c out1 = K0) ∧ Hid (OS wr ko sv1 out1) ∧ Hid (ARN wr ko sv1 (.slice (some a) ns.length cp) ns) ∧ Hid (RowAt wr w.heap.size #[.slice (some a) ns.length cp, .int .i64 r] 37) ∧ Hid (AK ko sv.ownBlock w wr) ∧ Hid (Fr w sv sv1) ∧ Hid (sv1.ownBlock ≠ some w.heap.size)) (fun s _ => 16 - (intOf s).toNat)
  case atStart => exact ⟨0, out, sv, Nat.zero_le _, rfl, HL, HK, HS, HR, RB, AK0, F0, B0⟩
  case round =>
    clear HK HS HR RB AK0 F0 B0
    obtain ⟨c, out1, sv1, hc, rfl, hl1, hk1, hs1, hr1, hrb1, hak1, hf1, hbb1⟩ := hrel
    have HK := Lib.hid hk1.out
    have HS := Lib.hid hs1.out
    have HR := Lib.hid hr1.out
    have RB := Lib.hid hrb1.out
    have AK1 := Lib.hid hak1.out
    have F1 := Lib.hid hf1.out
    have B1 := Lib.hid hbb1.out
    clear hk1 hs1 hr1 hrb1 hak1 hf1 hbb1
    by_cases hlt : c < 16
    · have hkd := HKD.out c hlt
      have hka := HKA.out c hlt
      have KWc := Lib.hid (KW.out c hlt out1 hl1)
      have hd := HK.out
      rw [hkd] at hd
      clear hkd HK
      generalize hkz : n.kids.getD c 0 = k at *
      replace hkz := Lib.hid hkz
      rw [kidsW] at hd
      have hka2 : (kdc n)[c]? = some (.int .i64 k) := by rw [hka, ← hkz.out]; rfl
      have hix := index_kids hlt hka2
      clear hka hka2
      by_cases e1 : k = -1
      · rw [if_pos e1] at hd
        have HK2 := Lib.hid hd
        have q1 : (k != -1) = false := by simp [e1]
        clear hd KWc e1
        go_wp2
        exact ⟨⟨c + 1, out1, sv1, by omega, by simp, hl1, HK2, HS, HR, RB, AK1, F1, B1⟩, by simp [intOf]; omega⟩
      · rw [if_neg e1] at hd
        have q1 : (k != -1) = true := bne_iff_ne.2 e1
        by_cases e2 : k < i
        · rw [if_pos e2] at hd
          have KX := Lib.hid (KWc.out e2)
          have HXL := Lib.hid (fun (h : (walkF ns f k (part ++ [UInt8.ofNat c]) out1).2 = true) => walkF_few ns f k (part ++ [UInt8.ofNat c]) out1 h)
          generalize walkF ns f k (part ++ [UInt8.ofNat c]) out1 = X at *
          obtain ⟨x1, x2⟩ := X
          have q2 : decide ((i : Int) ≤ k) = false := decide_eq_false (by omega)
          have q3 : IntKind.u8.wrap (c : Int) = c := by rw [IntKind.wrap_u8]; omega
          have hcv : (convert 123 9 (.slice (some ⟨wr.heap.size, 0, none⟩) 1 1)).run Try.prog (wr.alloc (.cells #[.int .u8 c] 5)) = .ok (.string (mkS [UInt8.ofNat c])) (wr.alloc (.cells #[.int .u8 c] 5)) := (OwnB.one (Nat.le_refl _) (x := (c : Int)) (UInt8.ofNat c) (by rw [UInt8.toNat_ofNat']; omega)).conv
          have hap := mkS_append part [UInt8.ofNat c]
          have hsz1 := mk_size [UInt8.ofNat c]
          have HBA := Lib.hid ((Below.refl wr.heap.size wr).alloc (Nat.le_refl _) (.cells #[.int .u8 c] 5))
          obtain ⟨b0, b1, -, -⟩ := RB.out.c2
          clear KWc e1 e2
          cases x2
          · have HD := Lib.hid (show (x1, false) = K0 from hd)
            clear hd HXL
            go_wp2_with (go_at_call 68; (with_reducible refine (KX.out sv1 _ _ (HS.out.below HBA.out) (HR.out.below HBA.out)).mono ?_); rintro e w4 ⟨sv4, rfl, hs4, hk4, hf4⟩)
            go_ret
            rw [← HD.out]
            exact ⟨sv4, rfl, hs4, (AK1.out.same (AK.ofBelow HBA.out)).transF hk4 F1.out, F1.out.trans (fun g e => (hf4 g e).imp id (fun h => Nat.le_trans HBA.out.size h)) AK1.out.size⟩
          · have HK2 := Lib.hid (show kidsW (walkF ns f) i part (n.kids.drop (c + 1)) (c + 1) x1 = K0 from hd)
            have hl2 : x1.length ≤ 64 := HXL.out rfl hl1
            clear hd HXL b0 b1
            obtain ⟨b0, b1, -, -⟩ := RB.out.c2
            go_wp2_with (go_at_call 68; (with_reducible refine (KX.out sv1 _ _ (HS.out.below HBA.out) (HR.out.below HBA.out)).mono ?_); rintro e w4 ⟨sv4, rfl, hs4, hk4, hf4⟩; have HS4 := Lib.hid hs4; have HF4 := Lib.hid (show Fr wr sv1 sv4 from fun g e => (hf4 g e).imp id (fun h => Nat.le_trans HBA.out.size h)); have HK4 := Lib.hid ((AK.ofBelow (ka := ko) (r := sv1.ownBlock) HBA.out).same hk4); clear hs4 hk4 hf4)
            exact ⟨⟨c + 1, x1, sv4, by omega, by simp, hl2, HK2, HS4, Lib.hid (HR.out.step HK4.out HF4.out), Lib.hid (RB.out.ak HK4.out HKB.out.1 B1.out), Lib.hid (AK1.out.transF HK4.out F1.out), Lib.hid (F1.out.trans HF4.out AK1.out.size), Lib.hid (HF4.out.ne RB.out.lt B1.out)⟩, by simp [intOf]; omega⟩
        · rw [if_neg e2] at hd
          have HD := Lib.hid hd
          have q2 : decide ((i : Int) ≤ k) = true := decide_eq_true (by omega)
          clear hd KWc e1 e2
          go_wp2
          go_ret
          rw [← HD.out]
          exact ⟨sv1, rfl, HS.out, AK1.out, F1.out⟩
    · obtain rfl : c = 16 := by omega
      have HD := Lib.hid (show (out1, true) = K0 from by
        have h := HK.out
        rw [List.drop_eq_nil_of_le (by rw [hkl.out]; exact Nat.le_refl _)] at h
        exact h)
      clear HK KW HKD HKA
      go_wp2
      go_ret
      rw [← HD.out]
      exact ⟨sv1, rfl, HS.out, AK1.out, F1.out⟩
end Go.Proofs.Ytefmlbckbhlgdaa
namespace Go.Proofs.Ytefmlbckbhlgdaa
open Go.RowKit Go.Shelf
set_option maxRecDepth 100000
set_option maxHeartbeats 8000000 in
theorem walk_branchN (ns : List Nd) (ko : Nat) (u : Value) (r : Int) (i : Nat) (n : Nd) (part : List UInt8) (out : List Pr) (sv : Value) (w : World) (hs : OS w ko sv out) (hr : ARN w ko sv u ns) (hp : part.length ≤ 64) (hn : ns[i]? = some n) (hk : n.kind = 3) (hv : n.value ≠ []) (ho : out.length ≤ 64) (hy : (yieldL out part n.value).2 = false) : Calls Try.prog 68 #[.agg #[u, .int .i64 r], .int .i64 i, .string (mkS part), fnY ko] w (FillAns ko sv ((yieldL out part n.value).1, false) w) := by
  have eg : ∀ args w, (callFunc 69 args).run Try.prog w = .ok (.enter 69 args) w := fun args w => by kernel_rfl
  have KY := Lib.hid (fun W (h : OS W ko sv out) => yield_any part n.value out ko sv W h (by omega) ho)
  generalize yieldL out part n.value = y at *
  obtain ⟨y1, y2⟩ := y
  simp only at hy
  subst hy
  have hve : (mkS n.value).toList.isEmpty = false := by rw [mkS_toList]; exact List.isEmpty_eq_false_iff.2 hv
  clear hv
  have hi : i < ns.length := (List.getElem?_eq_some_iff.1 hn).1
  obtain ⟨p, cp, rfl, z1, z2⟩ := RowE.shape encN hr.1
  have HB := Lib.hid ((Below.refl w.heap.size w).alloc (Nat.le_refl _) (.cells #[.slice p ns.length cp, .int .i64 r] 37))
  have HS := Lib.hid hs
  have HR := Lib.hid hr
  have RB := Lib.hid (RowAt.new w #[.slice p ns.length cp, .int .i64 r] 37)
  have R1 := RB.out.c2.1
  have g1 : ¬ (i : Int) < 0 := by omega
  have g2 : decide (ns.length ≤ i) = false := decide_eq_false (by omega)
  have hsz := mk_size part
  have g3 : decide ((64 : Int) < part.length) = false := decide_eq_false (by omega)
  have hil : (i : Int) < ns.length := by omega
  obtain ⟨a, rfl, hnd⟩ := NdAt.ofRowE (RN.below HR.out.1 HB.out (Nat.le_refl _)) hn
  have HN := Lib.hid hnd
  clear hs hr hn hnd
  go_enter Try.func68, Try.ntmps68
  go_upto_region 4 with (first
    | (refine wpList_load_nd rfl _ rfl _ n rfl HN.out ?_)
    | (refine wpList_store_nd rfl _ _ rfl (w.heap.size + 1) n rfl rfl _ (RowAt.new' _ _ _ (by simp)) rfl ?_; intro w3 hr3 hb3 ho3 hs3; have R := Lib.hid hr3; replace RB := Lib.hid (show RowAt w3 w.heap.size _ _ from (ho3 _ (by omega)).trans (RB.out.alloc _)); replace HB := Lib.hid (hb3 w.heap.size w (HB.out.alloc HB.out.size _) (Nat.le_succ _)); clear hr3 hb3 ho3 hs3))
  have HS3 := Lib.hid (HS.out.below HB.out)
  have HR3 := Lib.hid (HR.out.below HB.out)
  obtain ⟨c0, c1, c2, -⟩ := R.out.nd
  clear R1 HN HR HS
  rw [hk] at c0
  go_wp2_with (go_at_fn 69; (with_reducible refine (KY.out w3 HS3.out).mono ?_); rintro e w4 ⟨sv4, rfl, hs4, hk4, hf4⟩)
  go_ret
  exact FillAns.of HB.out ⟨sv4, rfl, hs4, hk4, hf4⟩
set_option maxHeartbeats 8000000 in
theorem walk_branchB (ns : List Nd) (ko : Nat) (u : Value) (r : Int) (i : Nat) (n : Nd) (part : List UInt8) (out : List Pr) (sv : Value) (w : World) (hs : OS w ko sv out) (hr : ARN w ko sv u ns) (hp : part.length ≤ 64) (hn : ns[i]? = some n) (f : Nat) (hk : n.kind = 3) (hkl : n.kids.length = 16) (hv : n.value ≠ []) (ho : out.length ≤ 64) (hy : (yieldL out part n.value).2 = true)
    (KW : ∀ c, c < 16 → ∀ out1 : List Pr, out1.length ≤ 64 → n.kids.getD c 0 < i → ∀ sv1 u W, OS W ko sv1 out1 → ARN W ko sv1 u ns → Calls Try.prog 68 #[.agg #[u, .int .i64 r], .int .i64 (n.kids.getD c 0), .string (mkS (part ++ [UInt8.ofNat c])), fnY ko] W (FillAns ko sv1 (walkF ns f (n.kids.getD c 0) (part ++ [UInt8.ofNat c]) out1) W)) : Calls Try.prog 68 #[.agg #[u, .int .i64 r], .int .i64 i, .string (mkS part), fnY ko] w (FillAns ko sv (kidsW (walkF ns f) i part n.kids 0 (yieldL out part n.value).1) w) := by
  have eg : ∀ args w, (callFunc 69 args).run Try.prog w = .ok (.enter 69 args) w := fun args w => by kernel_rfl
  have KY := Lib.hid (fun W (h : OS W ko sv out) => yield_any part n.value out ko sv W h (by omega) ho)
  have HL : (yieldL out part n.value).1.length ≤ 64 := yield_few hy
  generalize yieldL out part n.value = y at *
  obtain ⟨y1, y2⟩ := y
  simp only at hy HL
  subst hy
  have HK : Hid (kidsW (walkF ns f) i part (n.kids.drop 0) 0 y1 = kidsW (walkF ns f) i part n.kids 0 y1) := Lib.hid rfl
  generalize kidsW (walkF ns f) i part n.kids 0 y1 = K0 at *
  have HKD := Lib.hid (fun c (hc : c < 16) => kids_drop hkl hc)
  have HKB := Lib.hid (show w.heap.size ≠ ko ∧ sv.ownBlock ≠ some w.heap.size ∧ w.heap.size < w.heap.size + 1 from ⟨fun e => by have := hs.1.lt; omega, fun e => by have := (hs.own _ e).2; omega, Nat.lt_succ_self _⟩)
  have HKC := Lib.hid (show w.heap.size + 1 ≠ ko ∧ sv.ownBlock ≠ some (w.heap.size + 1) from ⟨fun e => by have := hs.1.lt; omega, fun e => by have := (hs.own _ e).2; omega⟩)
  have HKA := Lib.hid (fun c (hc : c < 16) => kdc_at n c hc)
  replace KW := Lib.hid KW
  replace hkl := Lib.hid hkl
  have hve : (mkS n.value).toList.isEmpty = false := by rw [mkS_toList]; exact List.isEmpty_eq_false_iff.2 hv
  clear hv
  have hi : i < ns.length := (List.getElem?_eq_some_iff.1 hn).1
  obtain ⟨p, cp, rfl, z1, z2⟩ := RowE.shape encN hr.1
  have HB := Lib.hid ((Below.refl w.heap.size w).alloc (Nat.le_refl _) (.cells #[.slice p ns.length cp, .int .i64 r] 37))
  have HS := Lib.hid hs
  have HR := Lib.hid hr
  have RB := Lib.hid (RowAt.new w #[.slice p ns.length cp, .int .i64 r] 37)
  have R1 := RB.out.c2.1
  have g1 : ¬ (i : Int) < 0 := by omega
  have g2 : decide (ns.length ≤ i) = false := decide_eq_false (by omega)
  have hsz := mk_size part
  have g3 : decide ((64 : Int) < part.length) = false := decide_eq_false (by omega)
  have hil : (i : Int) < ns.length := by omega
  obtain ⟨a, rfl, hnd⟩ := NdAt.ofRowE (RN.below HR.out.1 HB.out (Nat.le_refl _)) hn
  have HN := Lib.hid hnd
  clear hs hr hn hnd
  go_enter Try.func68, Try.ntmps68
  go_upto_region 4 with (first
    | (refine wpList_load_nd rfl _ rfl _ n rfl HN.out ?_)
    | (refine wpList_store_nd rfl _ _ rfl (w.heap.size + 1) n rfl rfl _ (RowAt.new' _ _ _ (by simp)) rfl ?_; intro w3 hr3 hb3 ho3 hs3; have R := Lib.hid hr3; replace RB := Lib.hid (show RowAt w3 w.heap.size _ _ from (ho3 _ (by omega)).trans (RB.out.alloc _)); replace HB := Lib.hid (hb3 w.heap.size w (HB.out.alloc HB.out.size _) (Nat.le_succ _)); clear hr3 hb3 ho3 hs3))
  have HS3 := Lib.hid (HS.out.below HB.out)
  have HR3 := Lib.hid (HR.out.below HB.out)
  obtain ⟨c0, c1, c2, -⟩ := R.out.nd
  clear R1 HN HR HS
  rw [hk] at c0
  go_upto_region 12 with (go_at_fn 69; (with_reducible refine (KY.out w3 HS3.out).mono ?_); rintro e w4 ⟨sv4, rfl, hs4, hk4, hf4⟩; have HS := Lib.hid hs4; have HK4 := Lib.hid hk4; have HF4 := Lib.hid hf4; clear hs4 hk4 hf4 KY)
  have HR := Lib.hid (HR3.out.step HK4.out HF4.out)
  have AK0 := Lib.hid ((AK.ofBelow (ka := ko) (r := sv.ownBlock) HB.out).same HK4.out)
  have F0 := Lib.hid (show Fr w sv sv4 from fun g e => (HF4.out g e).imp id (fun h => Nat.le_trans HB.out.size h))
  have B0 := Lib.hid (HF4.out.ne RB.out.lt HKB.out.2.1)
  replace RB := Lib.hid (RB.out.ak HK4.out HKB.out.1 HKB.out.2.1)
  replace R := Lib.hid (R.out.ak HK4.out HKC.out.1 HKC.out.2)
  clear HS3 HR3 HB c0 c1 c2 HK4 HF4
  go_upto_region 13 with (refine wpList_load_kids rfl _ rfl (w.heap.size + 1) n rfl R.out ?_)
  clear R
  go_loopw [77] (fun s wr => ∃ (c : Nat) (out1 : List Pr) (sv1 : Value), c ≤ 16 ∧ s = .int .i64 c ∧ out1.length ≤ 64 ∧ Hid (kidsW (walkF ns f) i part (n.kids.drop c) c out1 = K0) ∧ Hid (OS wr ko sv1 out1) ∧ Hid (ARN wr ko sv1 (.slice (some a) ns.length cp) ns) ∧ Hid (RowAt wr w.heap.size #[.slice (some a) ns.length cp, .int .i64 r] 37) ∧ Hid (AK ko sv.ownBlock w wr) ∧ Hid (Fr w sv sv1) ∧ Hid (sv1.ownBlock ≠ some w.heap.size)) (fun s _ => 16 - (intOf s).toNat)
  case atStart => exact ⟨0, y1, sv4, Nat.zero_le _, rfl, HL, HK, HS, HR, RB, AK0, F0, B0⟩
  case round =>
    clear HK HS HR RB AK0 F0 B0
    obtain ⟨c, out1, sv1, hc, rfl, hl1, hk1, hs1, hr1, hrb1, hak1, hf1, hbb1⟩ := hrel
    have HK := Lib.hid hk1.out
    have HS := Lib.hid hs1.out
    have HR := Lib.hid hr1.out
    have RB := Lib.hid hrb1.out
    have AK1 := Lib.hid hak1.out
    have F1 := Lib.hid hf1.out
    have B1 := Lib.hid hbb1.out
    clear hk1 hs1 hr1 hrb1 hak1 hf1 hbb1
    by_cases hlt : c < 16
    · have hkd := HKD.out c hlt
      have hka := HKA.out c hlt
      have KWc := Lib.hid (KW.out c hlt out1 hl1)
      have hd := HK.out
      rw [hkd] at hd
      clear hkd HK
      generalize hkz : n.kids.getD c 0 = k at *
      replace hkz := Lib.hid hkz
      rw [kidsW] at hd
      have hka2 : (kdc n)[c]? = some (.int .i64 k) := by rw [hka, ← hkz.out]; rfl
      have hix := index_kids hlt hka2
      clear hka hka2
      by_cases e1 : k = -1
      · rw [if_pos e1] at hd
        have HK2 := Lib.hid hd
        have q1 : (k != -1) = false := by simp [e1]
        clear hd KWc e1
        go_wp2
        exact ⟨⟨c + 1, out1, sv1, by omega, by simp, hl1, HK2, HS, HR, RB, AK1, F1, B1⟩, by simp [intOf]; omega⟩
      · rw [if_neg e1] at hd
        have q1 : (k != -1) = true := bne_iff_ne.2 e1
        by_cases e2 : k < i
        · rw [if_pos e2] at hd
          have KX := Lib.hid (KWc.out e2)
          have HXL := Lib.hid (fun (h : (walkF ns f k (part ++ [UInt8.ofNat c]) out1).2 = true) => walkF_few ns f k (part ++ [UInt8.ofNat c]) out1 h)
          generalize walkF ns f k (part ++ [UInt8.ofNat c]) out1 = X at *
          obtain ⟨x1, x2⟩ := X
          have q2 : decide ((i : Int) ≤ k) = false := decide_eq_false (by omega)
          have q3 : IntKind.u8.wrap (c : Int) = c := by rw [IntKind.wrap_u8]; omega
          have hcv : (convert 123 9 (.slice (some ⟨wr.heap.size, 0, none⟩) 1 1)).run Try.prog (wr.alloc (.cells #[.int .u8 c] 5)) = .ok (.string (mkS [UInt8.ofNat c])) (wr.alloc (.cells #[.int .u8 c] 5)) := (OwnB.one (Nat.le_refl _) (x := (c : Int)) (UInt8.ofNat c) (by rw [UInt8.toNat_ofNat']; omega)).conv
          have hap := mkS_append part [UInt8.ofNat c]
          have hsz1 := mk_size [UInt8.ofNat c]
          have HBA := Lib.hid ((Below.refl wr.heap.size wr).alloc (Nat.le_refl _) (.cells #[.int .u8 c] 5))
          obtain ⟨b0, b1, -, -⟩ := RB.out.c2
          clear KWc e1 e2
          cases x2
          · have HD := Lib.hid (show (x1, false) = K0 from hd)
            clear hd HXL
            go_wp2_with (go_at_call 68; (with_reducible refine (KX.out sv1 _ _ (HS.out.below HBA.out) (HR.out.below HBA.out)).mono ?_); rintro e w4 ⟨sv4, rfl, hs4, hk4, hf4⟩)
            go_ret
            rw [← HD.out]
            exact ⟨sv4, rfl, hs4, (AK1.out.same (AK.ofBelow HBA.out)).transF hk4 F1.out, F1.out.trans (fun g e => (hf4 g e).imp id (fun h => Nat.le_trans HBA.out.size h)) AK1.out.size⟩
          · have HK2 := Lib.hid (show kidsW (walkF ns f) i part (n.kids.drop (c + 1)) (c + 1) x1 = K0 from hd)
            have hl2 : x1.length ≤ 64 := HXL.out rfl hl1
            clear hd HXL b0 b1
            obtain ⟨b0, b1, -, -⟩ := RB.out.c2
            go_wp2_with (go_at_call 68; (with_reducible refine (KX.out sv1 _ _ (HS.out.below HBA.out) (HR.out.below HBA.out)).mono ?_); rintro e w4 ⟨sv4, rfl, hs4, hk4, hf4⟩; have HS4 := Lib.hid hs4; have HF4 := Lib.hid (show Fr wr sv1 sv4 from fun g e => (hf4 g e).imp id (fun h => Nat.le_trans HBA.out.size h)); have HK4 := Lib.hid ((AK.ofBelow (ka := ko) (r := sv1.ownBlock) HBA.out).same hk4); clear hs4 hk4 hf4)
            exact ⟨⟨c + 1, x1, sv4, by omega, by simp, hl2, HK2, HS4, Lib.hid (HR.out.step HK4.out HF4.out), Lib.hid (RB.out.ak HK4.out HKB.out.1 B1.out), Lib.hid (AK1.out.transF HK4.out F1.out), Lib.hid (F1.out.trans HF4.out AK1.out.size), Lib.hid (HF4.out.ne RB.out.lt B1.out)⟩, by simp [intOf]; omega⟩
        · rw [if_neg e2] at hd
          have HD := Lib.hid hd
          have q2 : decide ((i : Int) ≤ k) = true := decide_eq_true (by omega)
          clear hd KWc e1 e2
          go_wp2
          go_ret
          rw [← HD.out]
          exact ⟨sv1, rfl, HS.out, AK1.out, F1.out⟩
    · obtain rfl : c = 16 := by omega
      have HD := Lib.hid (show (out1, true) = K0 from by
        have h := HK.out
        rw [List.drop_eq_nil_of_le (by rw [hkl.out]; exact Nat.le_refl _)] at h
        exact h)
      clear HK KW HKD HKA
      go_wp2
      go_ret
      rw [← HD.out]
      exact ⟨sv1, rfl, HS.out, AK1.out, F1.out⟩

theorem walk_all (ns : List Nd) (hns : ∀ n ∈ ns, n.kids.length = 16 ∧ n.part.length ≤ 140737488351232) : ∀ f : Nat, f ≤ 9223372036854775807 → WalkC ns f
  | 0, _ => fun ko u r i part out sv w hs hr hi hp ho => walk_no1 ns ko u r i part out sv w hs hr hp (by omega)
  | f + 1, hf => fun ko u r i part out sv w hs hr hi hp ho => by
    have ih := walk_all ns hns f (by omega)
    rw [walkF]
    by_cases h0 : i < 0
    · rw [if_pos h0]; exact walk_no1 ns ko u r i part out sv w hs hr hp h0
    · rw [if_neg h0]
      obtain ⟨j, rfl⟩ : ∃ j : Nat, i = j := ⟨i.toNat, by omega⟩
      rw [Int.toNat_natCast]
      cases hn : ns[j]? with
      | none =>
        rw [List.getElem?_eq_none_iff] at hn
        exact walk_no2 ns ko u r j part out sv w hs hr hp hn (by omega)
      | some n =>
        simp only
        have hj : j < ns.length := (List.getElem?_eq_some_iff.1 hn).1
        obtain ⟨hkl, hpn⟩ := hns n (List.mem_of_getElem? hn)
        by_cases h1 : 64 < part.length
        · rw [if_pos h1]; exact walk_no3 ns ko u r j part out sv w hs hr hp hj h1
        · rw [if_neg h1]
          by_cases h2 : n.kind = 1
          · rw [if_pos h2]; exact walk_leaf ns ko u r j n part out sv w hs hr (by omega) hn h2 hpn ho
          · rw [if_neg h2]
            by_cases h3 : n.kind = 2
            · rw [if_pos h3]
              by_cases h4 : n.kids.getD 0 0 < j
              · rw [if_pos h4]
                exact walk_joint ns ko u r j n part out sv w hs hr (by omega) hn h3 hpn _ h4 fun u W k1 k2 => ih ko u r _ _ out sv W k1 k2 (by omega) (by rw [List.length_append]; omega) ho
              · rw [if_neg h4]
                exact walk_jointN ns ko u r j n part out sv w hs hr (by omega) hn h3 h4
            · rw [if_neg h3]
              by_cases h5 : n.kind = 3
              · rw [if_pos h5]
                have KW : ∀ c, c < 16 → ∀ out1 : List Pr, out1.length ≤ 64 → n.kids.getD c 0 < j → ∀ sv1 u W, OS W ko sv1 out1 → ARN W ko sv1 u ns → Calls Try.prog 68 #[.agg #[u, .int .i64 r], .int .i64 (n.kids.getD c 0), .string (mkS (part ++ [UInt8.ofNat c])), fnY ko] W (FillAns ko sv1 (walkF ns f (n.kids.getD c 0) (part ++ [UInt8.ofNat c]) out1) W) :=
                  fun c hc out1 hl hlt sv1 u W k1 k2 => ih ko u r _ _ out1 sv1 W k1 k2 (by omega) (by rw [List.length_append, List.length_singleton]; omega) hl
                by_cases h6 : n.value = []
                · rw [if_pos h6]
                  exact walk_branchA ns ko u r j n part out sv w hs hr (by omega) hn f h5 hkl h6 ho KW
                · rw [if_neg h6]
                  by_cases h7 : (yieldL out part n.value).2 = true
                  · rw [if_pos h7]
                    exact walk_branchB ns ko u r j n part out sv w hs hr (by omega) hn f h5 hkl h6 ho h7 KW
                  · rw [if_neg h7]
                    exact walk_branchN ns ko u r j n part out sv w hs hr (by omega) hn h5 h6 ho (by simpa using h7)
              · rw [if_neg h5]
                exact walk_else ns ko u r j n part out sv w hs hr (by omega) hn h2 h3 h5
end Go.Proofs.Ytefmlbckbhlgdaa
namespace Go.Proofs.Ytefmlbckbhlgdaa
open Go.RowKit Go.Shelf
set_option maxRecDepth 100000
theorem layF_kids : ∀ (f : Nat) (l : List Pr) (ns : List Nd), (∀ n ∈ ns, n.kids.length = 16) → ∀ n ∈ (layF f l ns).1, n.kids.length = 16
  | 0, l, ns, h => by simpa [layF] using h
  | f + 1, [], ns, h => by simpa [layF] using h
  | f + 1, [p], ns, h => by
    rw [layF_one]
    intro n hn
    rcases List.mem_append.1 hn with hn | hn
    · exact h n hn
    · rw [List.mem_singleton.1 hn]; rfl
  | f + 1, p :: q :: r, ns, h => by
    by_cases hc : 0 < commonL (p :: q :: r)
    · rw [layF_joint hc]
      intro n hn
      rcases List.mem_append.1 hn with hn | hn
      · exact layF_kids f _ ns h n hn
      · rw [List.mem_singleton.1 hn]; simp [jointN, noKids]
    · rw [layF_branch hc]
      have hk : ∀ m, ∀ n ∈ (kidsF f (p :: q :: r) (List.range m) (ns, [])).1, n.kids.length = 16 := by
        intro m
        induction m with
        | zero => exact h
        | succ m ih =>
          rw [kidsF_range]
          exact layF_kids f _ _ ih
      intro n hn
      rcases List.mem_append.1 hn with hn | hn
      · exact hk 16 n hn
      · rw [List.mem_singleton.1 hn]
        show (kidsF f (p :: q :: r) (List.range 16) (ns, [])).2.length = 16
        rw [kidsF_map]; simp
theorem ofT_kids (l : List Pr) : ∀ n ∈ (ofT l).1, n.kids.length = 16 := layF_kids 200 (partsL l) [] (fun n h => by cases h)
theorem likeT_iff {la lb : List Nd} {ra rb : Int} (ha : ∀ n ∈ la, n.kids.length = 16) (hb : ∀ n ∈ lb, n.kids.length = 16) : likeT la ra lb rb = true ↔ (la, ra) = (lb, rb) := by
  unfold likeT
  rw [Bool.and_eq_true, beq_iff_eq, rowEq_iff fun x hx y hy => ndEq_iff (ha x hx) (hb y hy), Prod.mk.injEq, and_comm]
theorem likeT_dec {la : List Nd} {ra : Int} {t : List Nd × Int} (ha : ∀ n ∈ la, n.kids.length = 16) (hb : ∀ n ∈ t.1, n.kids.length = 16) : likeT la ra t.1 t.2 = @decide ((la, ra) = t) (Classical.propDecidable _) := by
  by_cases h : (la, ra) = t
  · rw [@decide_eq_true _ (Classical.propDecidable _) h]
    exact (likeT_iff ha hb).2 h
  · rw [@decide_eq_false _ (Classical.propDecidable _) h]
    exact Bool.eq_false_iff.2 fun e => h ((likeT_iff ha hb).1 e)

/-- Nodes as they come in. -/
structure NsOk (ns : List Nd) : Prop where
  kids : ∀ n ∈ ns, n.kids.length = 16
  part : ∀ n ∈ ns, n.part.length ≤ 140737488351232
  few : ns.length ≤ 140737488355328

def PairsAns (t : List Nd × Int) (w : World) (e : Ending) (w' : World) : Prop := ∃ v, e = .returned (.tuple #[v, .bool (pairsT t).2]) ∧ OP w' w.heap.size v (pairsT t).1 ∧ Below w.heap.size w w'

set_option maxHeartbeats 4000000 in
theorem pairs_none (ns : List Nd) (u : Value) (w : World) (h : RN w u ns) : Calls Try.prog 37 #[.agg #[u, .int .i64 (-1)]] w (PairsAns (ns, -1) w) := by
  obtain ⟨p, c, rfl, z1, z2⟩ := RowE.shape encN h
  have HD := Lib.hid (show (pairsT (ns, -1)) = ([], (ns.length : Int) == 0) from by
    unfold pairsT
    rw [if_pos rfl]
    congr 1
    by_cases e : ns = []
    · subst e; rw [@decide_eq_true _ (Classical.propDecidable _) rfl]; rfl
    · rw [@decide_eq_false _ (Classical.propDecidable _) e]
      have : ns.length ≠ 0 := fun h => e (List.eq_nil_of_length_eq_zero h)
      exact (beq_eq_false_iff_ne.2 (by omega)).symm)
  have HB := Lib.hid (((Below.refl w.heap.size w).alloc (Nat.le_refl _) (.cells #[.slice p ns.length c, .int .i64 (-1)] 37)).alloc (by simp) (.cells #[.slice none 0 0] 34))
  have R1 := ((RowAt.new w #[.slice p ns.length c, .int .i64 (-1)] 37).alloc (.cells #[.slice none 0 0] 34))
  have R2 := R1.drew
  obtain ⟨x0, x1, -, -⟩ := R1.c2
  clear h R1
  go_enter Try.func37, Try.ntmps37
  go_upto_region 3 with (fail)
  generalize (w.alloc (.cells #[.slice p ns.length c, .int .i64 (-1)] 37)).alloc (.cells #[.slice none 0 0] 34) = w1 at *
  replace R2 := Lib.hid R2
  clear x1
  (refine region_tail 5 mix ?hB ?_; case hB => kernel_rfl); (simp only [List.take_succ_cons, List.take_zero, List.drop_succ_cons, List.drop_zero]; (iterate 5 (with_reducible refine wpStill_step ?_; intro K hK; go_simp; with_reducible refine hK _ ?_; clear hK K)); with_reducible refine wpStill_nil ?_)
  go_wp2
  refine bodyPost_ret (v := .tuple #[.slice none 0 0, .bool ((ns.length : Int) == 0)]) (by simp [results, Try.results37, go_sem]) rfl ?_
  refine ⟨.slice none 0 0, by rw [HD.out], ?_, HB.out.drew⟩
  rw [HD.out]
  exact OwnE.nil encP _ _ _
end Go.Proofs.Ytefmlbckbhlgdaa
namespace Go.Proofs.Ytefmlbckbhlgdaa
open Go.RowKit
section
variable {P : Program} {ops : Array Oper} {md : Region.Mode} {C : World → Prop} {E : Nat → Bool}
/-- Reads (false) and effects (true), one behind the other. -/
def wpXI (P : Program) (ops : Array Oper) (C : World → Prop) (Q : Act → World → Prop) : List (Bool × Nat) → Act → World → Prop
  | [], a, w => Q a w
  | (false, i) :: is, a, w => match ops[i]? with
    | none => False
    | some o => ∃ v, YC P ops C o v a ∧ wpXI P ops C Q is (a.put o.dst v) w
  | (true, k) :: is, a, w => match ops[k]? with
    | none => False
    | some o => if Region.wanted o (yielded ops a.tmps) = true then EX P C o (wpXI P ops C Q is) a w else wpXI P ops C Q is (a.put o.dst undef) w
def itB (md : Region.Mode) (ops : Array Oper) (E : Nat → Bool) (g n : Nat) : List (Bool × Nat) → Array Bool → Bool
  | [], listed => Region.seqB md ops g n listed
  | (true, k) :: is, listed => (decide (Region.ready md ops listed = [k]) && decide (k < n) && E k) && itB md ops E g n is (listed.setIfInBounds k true)
  | (false, i) :: is, listed => ((Region.ready md ops listed).contains i && Region.free md ops listed i && decide (i < n) && !E i) && itB md ops E g n is (listed.setIfInBounds i true)

theorem wpHeadX_items {n g : Nat} {Lq : Act → World → Prop} (hsel : Region.noSelect ops = true) (hs : Region.sinkB md ops n = true) (hc : Region.chainB md ops n = true) (hn : n < ops.size) :
    ∀ (its : List (Bool × Nat)) (listed : Array Bool) (a : Act) (w : World), HeadInv md ops n listed → itB md ops E g n its listed = true → wpXI P ops C Lq its a w →
      wpHeadX P md ops C E n (fun listed' a' w' => Region.seqB md ops g n listed' = true ∧ Lq a' w') its.length listed a w
  | [], listed, a, w, _, hB, h => ⟨by simpa [itB] using hB, h⟩
  | (true, k) :: its, listed, a, w, inv, hB, h => by
    simp only [itB, Bool.and_eq_true, decide_eq_true_eq] at hB
    obtain ⟨⟨⟨hr, hkn⟩, hE⟩, hB'⟩ := hB
    have hkr : k ∈ Region.ready md ops listed := by rw [hr]; exact List.mem_singleton.2 rfl
    rw [List.length_cons]
    refine ⟨by rw [hr]; simp, fun i hi => ?_⟩
    rw [hr] at hi
    obtain rfl := List.mem_singleton.1 hi
    refine ⟨hkn, ?_⟩
    have ih := fun a' w' (h' : wpXI P ops C Lq its a' w') => wpHeadX_items hsel hs hc hn its _ a' w' (inv.set hkr hkn) hB' h'
    unfold wpXI at h
    unfold xOp
    cases ho : ops[i]? with
    | none => rw [ho] at h; exact absurd h (by simp)
    | some o =>
      rw [ho] at h
      simp only at h ⊢
      rw [if_pos hE]
      by_cases hw : Region.wanted o (yielded ops a.tmps) = true
      · rw [if_pos hw] at h ⊢
        exact h.mono ih
      · rw [if_neg hw] at h ⊢
        exact ih _ _ h
  | (false, i) :: its, listed, a, w, inv, hB, h => by
    simp only [itB, Bool.and_eq_true, decide_eq_true_eq, Bool.not_eq_true'] at hB
    obtain ⟨⟨⟨⟨hr, hf⟩, hin⟩, hE⟩, hB'⟩ := hB
    have hr' : i ∈ Region.ready md ops listed := by simpa using hr
    unfold wpXI at h
    cases ho : ops[i]? with
    | none => rw [ho] at h; exact absurd h (by simp)
    | some o =>
      rw [ho] at h
      simp only at h
      obtain ⟨v, hy, hK⟩ := h
      rw [List.length_cons]
      exact wpHeadX_first ho hE (Region.noSelect_spec hsel) hs hc hn hin (fun listed' a' w' hL => seqB_ready hL.1) its.length listed a w inv (Region.free_spec ho hf) hr' hy
        (wpHeadX_items hsel hs hc hn its _ _ w (inv.set hr' hin) hB' hK)
end
/-- The whole check. -/
def itemsOk (l : List Oper) (its : List (Bool × Nat)) (n : Nat) : Bool :=
  Region.noSelect l.toArray && decide (n < l.toArray.size) && Region.sinkB .any l.toArray n && Region.chainB .any l.toArray n && decide (its.length = n) &&
    itB .any l.toArray (fun k => its.contains (true, k)) (l.toArray.size - n) n its (Array.replicate l.toArray.size false)
theorem region_items {P : Program} {id : Nat} {Q : Exit → Act → World → Prop} {a : Act} {w : World} {l : List Oper} (its : List (Bool × Nat)) (n : Nat) (C : World → Prop) (hm : P.follows .mixedOrders = true) (hB : itemsOk l its n = true)
    (hC : C { w with drawn := w.drawn + 1 })
    (h : wpXI P l.toArray C (fun a w => wpList P l.toArray Q (l.drop n) a w) its a { w with drawn := w.drawn + 1 }) : (Code.region id l.toArray true).wp P Q a w := by
  simp only [itemsOk, Bool.and_eq_true, decide_eq_true_eq] at hB
  obtain ⟨⟨⟨⟨⟨hsel, hn⟩, hs⟩, hc⟩, hlen⟩, hord⟩ := hB
  have hdl : (l.drop n).length = l.toArray.size - n := by simp
  have inv0 : HeadInv .any l.toArray n (Array.replicate l.toArray.size false) :=
    ⟨by simp, fun j oj _ hl => (by rw [getD_replicate_false] at hl; cases hl), fun t _ ht => getD_in (by simpa using ht) (getD_replicate_false _ _)⟩
  have H := wpHeadX_items (md := .any) (C := C) (E := fun k => its.contains (true, k)) (g := l.toArray.size - n) (n := n) (Lq := fun a' w' => wpList P l.toArray Q (l.drop n) a' w') hsel hs hc hn its _ a { w with drawn := w.drawn + 1 } inv0 hord h
  refine wp_region_any hm ?_
  have := wpAny_of_headX (Q' := Q) (C := C) (g := l.toArray.size - n) (fun listed a' w' hL => by
    have := wpAny_of_seq (md := .any) (Q' := Q) (l.drop n) n listed a' w' (fun j => by simp [List.getElem?_drop]) (by rw [hdl]; exact hL.1) hL.2
    rwa [hdl] at this) _ _ _ { w with drawn := w.drawn + 1 } hC H
  rw [hlen, show n + (l.toArray.size - n) = l.toArray.size by omega] at this
  exact this

section
variable {P : Program} {ops : Array Oper} {C : World → Prop}
theorem xi_nil {Q : Act → World → Prop} {a : Act} {w : World} (h : Q a w) : wpXI P ops C Q [] a w := h
theorem xi_read {Q : Act → World → Prop} {a : Act} {w : World} {i : Nat} {is : List (Bool × Nat)}
    (h : ∃ o, ops[i]? = some o ∧ ∀ K : Act → Prop, (∀ a, wpXI P ops C Q is a w → K a) → if Region.wanted o (yielded ops a.tmps) then (∃ v, (∀ u : InC C, o.quietAt P a (fun w' => w' = u.w) u.w v) ∧ K (a.put o.dst v)) else K (a.put o.dst undef)) : wpXI P ops C Q ((false, i) :: is) a w := by
  obtain ⟨o, hi, h⟩ := h
  have := h _ (fun _ h => h)
  unfold wpXI YC
  rw [hi]
  simp only
  split at this
  · rename_i hw
    obtain ⟨v, h1, h2⟩ := this
    exact ⟨v, .inl ⟨hw, h1⟩, h2⟩
  · rename_i hw
    exact ⟨_, .inr ⟨by simpa using hw, rfl⟩, this⟩
theorem xi_eff {Q : Act → World → Prop} {a : Act} {w : World} {k : Nat} {es : List (Bool × Nat)}
    (h : ∃ o, ops[k]? = some o ∧ ∀ K : Act → World → Prop, (∀ a w, wpXI P ops C Q es a w → K a w) → if Region.wanted o (yielded ops a.tmps) then EX P C o K a w else K (a.put o.dst undef) w) : wpXI P ops C Q ((true, k) :: es) a w := by
  obtain ⟨o, hk, h⟩ := h
  have := h _ (fun _ _ h => h)
  unfold wpXI
  rw [hk]
  simp only
  split at this
  · rename_i hw; rw [if_pos hw]; exact this
  · rename_i hw; rw [if_neg hw]; exact this
end
end Go.Proofs.Ytefmlbckbhlgdaa

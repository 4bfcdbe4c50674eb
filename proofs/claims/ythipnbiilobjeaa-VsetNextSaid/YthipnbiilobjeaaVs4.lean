/- Vset: Fold. -/
import Derived.Test.YthipnbiilobjeaaVs3
import Derived.WalkMore
namespace Go.Proofs.Ythipnbiilobjeaa
open Go.RowKit Go.Shelf

/-- A header with where its two slices lie. -/
abbrev HS := Hd × (Option Addr × Nat) × (Option Addr × Nat)
abbrev HS.sv (x : HS) : Value := .slice x.2.1.1 x.1.val.length x.2.1.2
abbrev HS.gv (x : HS) : Value := .slice x.2.2.1 x.1.se.length x.2.2.2
abbrev hsc (x : HS) : Array Value := hdc x.1 x.sv x.gv
def encH : Enc HS := ⟨11, fun x => (hsc x).toList, fun _ => rfl, fun x u h => by simp at h; rcases h with rfl | rfl | rfl | rfl | rfl | rfl | rfl | rfl | rfl | rfl | rfl <;> rfl, by decide⟩
def HsOk (w : World) (x : HS) : Prop := HdAt w x.1 x.sv x.gv ∧ x.1.val.length ≤ 100000 ∧ 0 ≤ x.1.ht
theorem HsOk.below {w w' : World} {x : HS} (a : HsOk w x) (hb : Below w.heap.size w w') : HsOk w' x := ⟨a.1.below hb, a.2⟩

theorem RowE.atH {w : World} {p : Option Addr} {n c : Nat} {l : List HS} (h : RowE encH w (.slice p n c) l) : ∀ i x, l[i]? = some x → ∃ a, p = some a ∧ ∀ r u, (hsc x)[r]? = some u → w.cell? ((a.add (i * 11)).add r) = some u := by
  rcases h with ⟨_, rfl⟩ | ⟨a, cap, hv, h1, h2, hc⟩
  · intro i s hs; simp at hs
  · injection hv with e1 e2 e3
    subst e1 e2 e3
    refine fun i s hs => ⟨a, rfl, fun r u hr => ?_⟩
    have hr9 : r < 11 := (Array.getElem?_eq_some_iff.1 hr).1
    have := flat_get encH hs r hr9
    rw [Go.Deep.add_add]
    refine hc (i * 11 + r) u ?_
    rw [show i * 11 + r = i * encH.k + r from rfl, this]
    simpa [encH] using hr

noncomputable def foldFrom (ep : Int) : List HS → List ByteArray → List Bal → List ByteArray × List Bal × Int
  | [], S, V => (S, V, 0)
  | x :: t, S, V => if (nextF S V x.1 ep).2.2 = 0 then foldFrom ep t (nextF S V x.1 ep).1 (nextF S V x.1 ep).2.1 else nextF S V x.1 ep
open Classical in
noncomputable def foldF (S : List ByteArray) (l : List HS) (ep : Int) : List ByteArray × List Bal × Int :=
  if RightOk S [] ∧ ep ≠ 0 then foldFrom ep l S [] else ([], [], 1)

theorem foldFrom_append (ep : Int) : ∀ (l m : List HS) (S : List ByteArray) (V : List Bal), foldFrom ep (l ++ m) S V = if (foldFrom ep l S V).2.2 = 0 then foldFrom ep m (foldFrom ep l S V).1 (foldFrom ep l S V).2.1 else foldFrom ep l S V
  | [], m, S, V => by simp [foldFrom]
  | x :: t, m, S, V => by
    rw [List.cons_append, foldFrom, foldFrom]
    by_cases h : (nextF S V x.1 ep).2.2 = 0
    · rw [if_pos h, if_pos h]; exact foldFrom_append ep t m _ _
    · rw [if_neg h, if_neg h, if_neg h]

/-- What a call that answers with validators, votes and a code leaves; no bound on how many. -/
def FoldPost (r : List ByteArray × List Bal × Int) (w : World) (e : Ending) (w' : World) : Prop :=
  ∃ pS cS pV cV, e = .returned (.tuple #[.agg #[.slice pS r.1.length cS, .slice pV r.2.1.length cV], .int .i64 r.2.2]) ∧ RS w' (.slice pS r.1.length cS) r.1 ∧ RB w' (.slice pV r.2.1.length cV) r.2.1 ∧ Below w.heap.size w w' ∧ r.1.length ≤ 1000 ∧ r.2.1.length ≤ 1000

/-- Cells of two boxes of a Fold. -/
def FdSt (w : World) (s : Value) (S : List ByteArray) (v : Value) (V : List Bal) (W : World) : Prop :=
  RowAt W w.heap.size #[.slice none 0 0, .slice none 0 0] 45 ∧ RowAt W (w.heap.size + 1) #[s, v] 45 ∧ RowE encS W s S ∧ RowE encB W v V ∧ Below w.heap.size w W
section
variable {w W W' : World} {S : List ByteArray} {V : List Bal}
theorem FdSt.next {s v : Value} (a : FdSt w s S v V W) (hb : Below W.heap.size W W') : FdSt w s S v V W' :=
  ⟨a.1.belowS hb, a.2.1.belowS hb, a.2.2.1.below encS hb (Nat.le_refl _), a.2.2.2.1.below encB hb (Nat.le_refl _), a.2.2.2.2.trans (hb.mono a.2.2.2.2.size)⟩
theorem FdSt.put {p q p2 q2 : Option Addr} {n m c d n2 m2 c2 d2 : Nat} {S2 : List ByteArray} {V2 : List Bal} (a : FdSt w (.slice p n c) S (.slice q m d) V W) (hs : RowE encS W (.slice p2 n2 c2) S2) (hvv : RowE encB W (.slice q2 m2 d2) V2) :
    FdSt w (.slice p2 n2 c2) S2 (.slice q2 m2 d2) V2 ((W.setCell ⟨w.heap.size + 1, 0, none⟩ (.slice p2 n2 c2)).setCell ⟨w.heap.size + 1, 1, none⟩ (.slice q2 m2 d2)) := by
  have r1 : RowAt (W.setCell ⟨w.heap.size + 1, 0, none⟩ (.slice p2 n2 c2)) (w.heap.size + 1) #[.slice p2 n2 c2, .slice q m d] 45 := a.2.1.set 0 _ rfl
  exact ⟨(a.1.other _ _ (by simp)).other _ _ (by simp), r1.set 1 _ rfl, RowE.setBox encS_ns (RowE.setBox encS_ns hs a.2.1 0 _) r1 1 _, RowE.setBox encB_ns (RowE.setBox encB_ns hvv a.2.1 0 _) r1 1 _,
    (a.2.2.2.2.setCell (p := ⟨w.heap.size + 1, 0, none⟩) (Nat.le_succ _) _).setCell (p := ⟨w.heap.size + 1, 1, none⟩) (Nat.le_succ _) _⟩
theorem FdSt.ans {s v : Value} {p2 q2 : Option Addr} {n2 m2 c2 d2 : Nat} {S2 : List ByteArray} {V2 : List Bal} (a : FdSt w s S v V W) (hs : RowE encS W (.slice p2 n2 c2) S2) (hvv : RowE encB W (.slice q2 m2 d2) V2) :
    RowAt ((W.setCell ⟨w.heap.size, 0, none⟩ (.slice p2 n2 c2)).setCell ⟨w.heap.size, 1, none⟩ (.slice q2 m2 d2)) w.heap.size #[.slice p2 n2 c2, .slice q2 m2 d2] 45 ∧
    RS ((W.setCell ⟨w.heap.size, 0, none⟩ (.slice p2 n2 c2)).setCell ⟨w.heap.size, 1, none⟩ (.slice q2 m2 d2)) (.slice p2 n2 c2) S2 ∧ RB ((W.setCell ⟨w.heap.size, 0, none⟩ (.slice p2 n2 c2)).setCell ⟨w.heap.size, 1, none⟩ (.slice q2 m2 d2)) (.slice q2 m2 d2) V2 ∧
    Below w.heap.size w ((W.setCell ⟨w.heap.size, 0, none⟩ (.slice p2 n2 c2)).setCell ⟨w.heap.size, 1, none⟩ (.slice q2 m2 d2)) :=
  ⟨(a.1.set 0 _ rfl).set 1 _ rfl, RowE.setBox encS_ns (RowE.setBox encS_ns hs a.1 0 _) (a.1.set 0 (.slice p2 n2 c2) rfl) 1 _, RowE.setBox encB_ns (RowE.setBox encB_ns hvv a.1 0 _) (a.1.set 0 (.slice p2 n2 c2) rfl) 1 _,
    (a.2.2.2.2.setCell (p := ⟨w.heap.size, 0, none⟩) (Nat.le_refl _) _).setCell (p := ⟨w.heap.size, 1, none⟩) (Nat.le_refl _) _⟩
end

set_option maxRecDepth 100000 in
set_option maxHeartbeats 4000000 in
theorem fold_any (sv : Value) (S : List ByteArray) (lv : Value) (L : List HS) (ep : Int) (w : World) (hS : RowE encS w sv S) (hL : RowE encH w lv L) (hok : ∀ x ∈ L, HsOk w x) (hl : L.length ≤ 30) (hl2 : S.length ≤ 100) (he : 0 ≤ ep) :
    Calls Try.prog 32 #[sv, lv, .int .u64 ep] w (FoldPost (foldF S L ep) w) := by
  obtain ⟨pS, cS, rfl, s1, s2⟩ := RowE.shape encS hS
  obtain ⟨pL, cL, rfl, s3, s4⟩ := RowE.shape encH hL
  have hn : ∀ W : World, RowE encB W (.slice none 0 0) [] := fun W => .inl ⟨rfl, rfl⟩
  have KR := Lib.hid (fun W a => right_any (.slice pS S.length cS) (.slice none 0 0) S [] W a (hn W) (by simp) (by omega))
  have HL := Lib.hid hL
  have HOK := Lib.hid hok
  have F0 : Hid (FdSt w (.slice pS S.length cS) S (.slice none 0 0) [] _) := Lib.hid ⟨(RowAt.new w #[.slice none 0 0, .slice none 0 0] 45).alloc _, RowAt.new' (w.alloc (.cells #[.slice none 0 0, .slice none 0 0] 45)) #[.slice pS S.length cS, .slice none 0 0] 45 (k := w.heap.size + 1) (by simp), hS.below encS (belowA2 w _ _) (Nat.le_refl _), hn _, belowA2 w _ _⟩
  clear hS hL hok
  unfold maxLen at s4
  go_enter Try.func32, Try.ntmps32
  go_wp2
  go_step3
  go_upto_region 2 with (fail)
  generalize (w.alloc (.cells #[.slice none 0 0, .slice none 0 0] 45)).alloc (.cells #[.slice pS S.length cS, .slice none 0 0] 45) = W at *
  obtain ⟨x0, x1, xf0, xf1⟩ := F0.out.2.1.c2
  obtain ⟨z0, z1, zf0, zf1⟩ := F0.out.1.c2
  by_cases g1 : RightOk S []
  · rw [rightL_true g1] at KR
    by_cases g2 : ep = 0
    · have HC : Hid (foldF S L ep = ([], [], 1)) := Lib.hid (by unfold foldF; rw [if_neg (fun h => h.2 g2)])
      subst g2
      clear g1
      go_wp2_with (go_at_call 57; refine (KR.out _ F0.out.2.2.1).mono ?_; rintro e w1 ⟨rfl, hb⟩; replace F0 := Lib.hid (F0.out.next hb); clear hb x0 x1 xf0 xf1 z0 z1 zf0 zf1; obtain ⟨z0, z1, zf0, zf1⟩ := F0.out.1.c2)
      obtain ⟨r1, r2, r3, r4⟩ := F0.out.ans (p2 := none) (n2 := 0) (c2 := 0) (q2 := none) (m2 := 0) (d2 := 0) (S2 := []) (V2 := []) (.inl ⟨rfl, rfl⟩) (.inl ⟨rfl, rfl⟩)
      obtain ⟨k0, k1, _, _⟩ := r1.c2
      rw [Exit.noGoto_ret]
      refine bodyPost_ret (v := .tuple #[.agg #[.slice none 0 0, .slice none 0 0], .int .i64 1]) (by simp [results, Try.results32, go_sem, k0, k1]) rfl ?_
      rw [HC.out]
      exact ⟨none, 0, none, 0, rfl, r2, r3, r4, Nat.zero_le _, Nat.zero_le _⟩
    · have HC : Hid (foldF S L ep = foldFrom ep L S []) := Lib.hid (by unfold foldF; rw [if_pos ⟨g1, g2⟩])
      clear g1
      have hep : (ep == 0) = false := by simp [g2]
      go_upto_region 5 with (go_at_call 57; refine (KR.out _ F0.out.2.2.1).mono ?_; rintro e w1 ⟨rfl, hb⟩; replace F0 := Lib.hid (F0.out.next hb); clear hb x0 x1 xf0 xf1 z0 z1 zf0 zf1)
      have HC2 := Lib.hid (show foldFrom ep L S [] = foldFrom ep (L.drop 0) S [] from rfl)
      go_step3
      go_wp2
      go_loopw [9, 24] (fun s9 s24 wr => ∃ (k : Nat) (S' : List ByteArray) (V' : List Bal) (p : Option Addr) (c : Nat) (q : Option Addr) (d : Nat), k ≤ L.length ∧ s24 = .int .i64 k ∧ s9 = .int .i64 0 ∧ S'.length ≤ S.length + k ∧ V'.length ≤ k ∧ Hid (foldFrom ep L S [] = foldFrom ep (L.drop k) S' V') ∧ Hid (FdSt w (.slice p S'.length c) S' (.slice q V'.length d) V' wr)) (fun _ s _ => L.length - (intOf s).toNat)
      case atStart => exact ⟨0, S, [], pS, cS, none, 0, Nat.zero_le _, rfl, rfl, Nat.le_refl _, Nat.le_refl _, HC2, F0⟩
      case round =>
        clear F0 HC2
        obtain ⟨k, S', V', p, c, q, d, hk, rfl, rfl, hsl, hvl, hfo, hf⟩ := hrel
        have F0 := Lib.hid hf.out
        have HFO := Lib.hid hfo.out
        clear hf hfo
        obtain ⟨x0, x1, xf0, xf1⟩ := F0.out.2.1.c2
        obtain ⟨z0, z1, zf0, zf1⟩ := F0.out.1.c2
        by_cases hlt : k < L.length
        · have hg := List.getElem?_eq_getElem hlt
          obtain ⟨a, rfl, hc⟩ := RowE.atH (RowE.below encH HL.out F0.out.2.2.2.2 (Nat.le_refl _)) k L[k] hg
          have hdr : L.drop k = L[k] :: L.drop (k + 1) := List.drop_eq_getElem_cons hlt
          have hxok := HOK.out L[k] (List.getElem_mem hlt)
          generalize L[k] = x at *
          have HFO2 := HFO.out
          rw [hdr, foldFrom] at HFO2
          have c0 := hc 0 _ rfl
          have c1 := hc 1 _ rfl
          have c2 := hc 2 _ rfl
          have c3 := hc 3 _ rfl
          have c4 := hc 4 _ rfl
          have c5 := hc 5 _ rfl
          have c6 := hc 6 _ rfl
          have c7 := hc 7 _ rfl
          have c8 := hc 8 _ rfl
          have c9 := hc 9 _ rfl
          have c10 := hc 10 _ rfl
          clear hc hdr HFO hg
          replace c0 : wr.cell? (a.add (k * 11)) = _ := c0
          replace c1 : wr.cell? ⟨(a.add (k * 11)).block, (a.add (k * 11)).off + 1, none⟩ = _ := c1
          replace c2 : wr.cell? ⟨(a.add (k * 11)).block, (a.add (k * 11)).off + 2, none⟩ = _ := c2
          replace c3 : wr.cell? ⟨(a.add (k * 11)).block, (a.add (k * 11)).off + 3, none⟩ = _ := c3
          replace c4 : wr.cell? ⟨(a.add (k * 11)).block, (a.add (k * 11)).off + 4, none⟩ = _ := c4
          replace c5 : wr.cell? ⟨(a.add (k * 11)).block, (a.add (k * 11)).off + 5, none⟩ = _ := c5
          replace c6 : wr.cell? ⟨(a.add (k * 11)).block, (a.add (k * 11)).off + 6, none⟩ = _ := c6
          replace c7 : wr.cell? ⟨(a.add (k * 11)).block, (a.add (k * 11)).off + 7, none⟩ = _ := c7
          replace c8 : wr.cell? ⟨(a.add (k * 11)).block, (a.add (k * 11)).off + 8, none⟩ = _ := c8
          replace c9 : wr.cell? ⟨(a.add (k * 11)).block, (a.add (k * 11)).off + 9, none⟩ = _ := c9
          replace c10 : wr.cell? ⟨(a.add (k * 11)).block, (a.add (k * 11)).off + 10, none⟩ = _ := c10
          have W2 := belowA wr (.cells (hsc x) 36)
          have F2 := Lib.hid (F0.out.next W2)
          have KN := next_any _ _ S' V' x.1 x.sv x.gv ep _ F2.out.2.2.1 F2.out.2.2.2.1 (hxok.below F2.out.2.2.2.2).1 (by omega) (by omega) hxok.2.1 he hxok.2.2
          have KN := Lib.hid KN
          generalize hr : nextF S' V' x.1 ep = r at *
          obtain ⟨X, VX, cx⟩ := r
          have HR := Lib.hid hr
          have HFO := Lib.hid HFO2
          clear hr HFO2 W2 F0
          obtain ⟨x, ⟨pv, cv⟩, ⟨pg, cg⟩⟩ := x
          obtain ⟨pa, ht, ro, tx, pr, va, val, vo, ad, rd, se⟩ := x
          simp only [HS.sv, HS.gv] at *
          go_upto_region 8 with (fail)
          replace F2 : Hid (FdSt w (.slice p S'.length c) S' (.slice q V'.length d) V' (wr.alloc (.cells #[.string pa, .int .u64 ht, .string ro, .string tx, .string pr, .string va, .slice pv val.length cv, .string vo, .bool ad, .int .u64 rd, .slice pg se.length cg] 36))) := F2
          have RX : Hid (RowAt (wr.alloc (.cells #[.string pa, .int .u64 ht, .string ro, .string tx, .string pr, .string va, .slice pv val.length cv, .string vo, .bool ad, .int .u64 rd, .slice pg se.length cg] 36)) wr.heap.size #[.string pa, .int .u64 ht, .string ro, .string tx, .string pr, .string va, .slice pv val.length cv, .string vo, .bool ad, .int .u64 rd, .slice pg se.length cg] 36) := Lib.hid (RowAt.new wr _ _)
          replace KN : Hid (Calls Try.prog 30 #[.agg #[.slice p S'.length c, .slice q V'.length d], .agg #[.string pa, .int .u64 ht, .string ro, .string tx, .string pr, .string va, .slice pv val.length cv, .string vo, .bool ad, .int .u64 rd, .slice pg se.length cg], .int .u64 ep] (wr.alloc (.cells #[.string pa, .int .u64 ht, .string ro, .string tx, .string pr, .string va, .slice pv val.length cv, .string vo, .bool ad, .int .u64 rd, .slice pg se.length cg] 36)) (SnapPost (X, VX, cx) (S'.length + 1) (V'.length + 1) (wr.alloc (.cells #[.string pa, .int .u64 ht, .string ro, .string tx, .string pr, .string va, .slice pv val.length cv, .string vo, .bool ad, .int .u64 rd, .slice pg se.length cg] 36)))) := KN
          generalize wr.alloc (.cells #[.string pa, .int .u64 ht, .string ro, .string tx, .string pr, .string va, .slice pv val.length cv, .string vo, .bool ad, .int .u64 rd, .slice pg se.length cg] 36) = W2 at *
          generalize wr.heap.size = kx at *
          clear x0 x1 xf0 xf1 z0 z1 zf0 zf1 c0 c1 c2 c3 c4 c5 c6 c7 c8 c9 c10 hxok
          obtain ⟨x0, x1, xf0, xf1⟩ := F2.out.2.1.c2
          obtain ⟨y0, y1, y2, y3, y4, y5, y6, y7, y8, y9, y10⟩ := RX.out.c11
          go_upto_region 9 with (fail)
          refine KN.out.mono ?_
          rintro e w4 ⟨pX, cX, pY, cY, rfl, hXs, hYs, hb, hn1, hn2⟩
          try simp only at hXs hYs hn1 hn2
          have F4 := Lib.hid (F2.out.next hb)
          have HXs := Lib.hid hXs
          have HYs := Lib.hid hYs
          clear x0 x1 xf0 xf1 y0 y1 y2 y3 y4 y5 y6 y7 y8 y9 y10 hb hXs hYs RX F2 KN
          obtain ⟨x0, x1, xf0, xf1⟩ := F4.out.2.1.c2
          go_upto_region 9 with (fail)
          have F5 := Lib.hid (F4.out.put HXs.out HYs.out)
          clear x0 x1 xf0 xf1 F4 HXs HYs
          generalize (w4.setCell ⟨w.heap.size + 1, 0, none⟩ (.slice pX X.length cX)).setCell ⟨w.heap.size + 1, 1, none⟩ (.slice pY VX.length cY) = w5 at *
          have hfo := HFO.out
          try simp only at hfo
          have hro := HR.out
          try simp only at hro
          try rw [hro] at hfo
          clear HFO HR hro
          by_cases hcx : cx = 0
          · rw [if_pos hcx] at hfo
            have HF2 := Lib.hid hfo
            clear hfo
            subst hcx
            go_wp2
            exact ⟨⟨k + 1, X, VX, pX, cX, pY, cY, by omega, by simp, rfl, by omega, by omega, HF2, F5⟩, by simp [intOf]; omega⟩
          · rw [if_neg hcx] at hfo
            have HF2 := Lib.hid hfo
            clear hfo
            obtain ⟨x0, x1, xf0, xf1⟩ := F5.out.2.1.c2
            obtain ⟨z0, z1, zf0, zf1⟩ := F5.out.1.c2
            go_wp2
            obtain ⟨r1, r2, r3, r4⟩ := F5.out.ans F5.out.2.2.1 F5.out.2.2.2.1
            obtain ⟨k0, k1, _, _⟩ := r1.c2
            try rw [Exit.noGoto_ret]
            refine bodyPost_ret (v := .tuple #[.agg #[.slice pX X.length cX, .slice pY VX.length cY], .int .i64 cx]) (by simp [results, Try.results32, go_sem, k0, k1]) rfl ?_
            rw [HC.out, HF2.out]
            exact ⟨pX, cX, pY, cY, rfl, r2, r3, r4, (by show X.length ≤ 1000; omega), (by show VX.length ≤ 1000; omega)⟩
        · obtain rfl : k = L.length := by omega
          have HFO2 := HFO.out
          rw [List.drop_length, foldFrom] at HFO2
          have HFO := Lib.hid HFO2
          clear HFO2
          go_wp2
          obtain ⟨r1, r2, r3, r4⟩ := F0.out.ans F0.out.2.2.1 F0.out.2.2.2.1
          obtain ⟨k0, k1, _, _⟩ := r1.c2
          try rw [Exit.noGoto_ret]
          refine bodyPost_ret (v := .tuple #[.agg #[.slice p S'.length c, .slice q V'.length d], .int .i64 0]) (by simp [results, Try.results32, go_sem, k0, k1]) rfl ?_
          rw [HC.out, HFO.out]
          exact ⟨p, c, q, d, rfl, r2, r3, r4, (by show S'.length ≤ 1000; omega), (by show V'.length ≤ 1000; omega)⟩
  · rw [rightL_false g1] at KR
    have HC : Hid (foldF S L ep = ([], [], 1)) := Lib.hid (by unfold foldF; rw [if_neg (fun h => g1 h.1)])
    clear g1
    go_wp2_with (go_at_call 57; refine (KR.out _ F0.out.2.2.1).mono ?_; rintro e w1 ⟨rfl, hb⟩; replace F0 := Lib.hid (F0.out.next hb); clear hb x0 x1 xf0 xf1 z0 z1 zf0 zf1; obtain ⟨z0, z1, zf0, zf1⟩ := F0.out.1.c2)
    obtain ⟨r1, r2, r3, r4⟩ := F0.out.ans (p2 := none) (n2 := 0) (c2 := 0) (q2 := none) (m2 := 0) (d2 := 0) (S2 := []) (V2 := []) (.inl ⟨rfl, rfl⟩) (.inl ⟨rfl, rfl⟩)
    obtain ⟨k0, k1, _, _⟩ := r1.c2
    rw [Exit.noGoto_ret]
    refine bodyPost_ret (v := .tuple #[.agg #[.slice none 0 0, .slice none 0 0], .int .i64 1]) (by simp [results, Try.results32, go_sem, k0, k1]) rfl ?_
    rw [HC.out]
    exact ⟨none, 0, none, 0, rfl, r2, r3, r4, Nat.zero_le _, Nat.zero_le _⟩
end Go.Proofs.Ythipnbiilobjeaa

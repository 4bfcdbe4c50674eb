/- The trie: the arena's state; what one group of pairs does to it. The trie: what begins alike is handed on. The trie: each, walked. Regions that draw their order and hold a chain of effects (each behind the one ahead of it in whatever order), and operations that only read: one walk, in the order of the text. -/
import Derived.Shelf.Abstract
import Derived.Test.YtefmlbckbhlgdaaTm5
import Derived.Test.YtefmlbckbhlgdaaTm8
namespace Go.Proofs.Ytefmlbckbhlgdaa
open Go.RowKit Go.Shelf
set_option maxRecDepth 100000
/-- All blocks but two and a row's own stay as they are. -/
structure AN (ka kn : Nat) (r : Option Nat) (w w' : World) : Prop where
  os : w'.os = w.os
  tape : w'.tape = w.tape
  output : w'.output = w.output
  size : w.heap.size ≤ w'.heap.size
  block : ∀ k, k < w.heap.size → k ≠ ka → k ≠ kn → some k ≠ r → w'.heap[k]? = w.heap[k]?
/-- The row's own block stays, or is a new one. -/
def Fr (w : World) (sv sv' : Value) : Prop := ∀ g, sv'.ownBlock = some g → sv.ownBlock = some g ∨ w.heap.size ≤ g
theorem Fr.refl (w : World) (sv : Value) : Fr w sv sv := fun _ e => .inl e
theorem Fr.trans {w w1 : World} {a b c : Value} (h : Fr w a b) (k : Fr w1 b c) (hs : w.heap.size ≤ w1.heap.size) : Fr w a c := fun g e => by
  rcases k g e with e | e
  · exact h g e
  · exact .inr (by omega)
theorem AK.an {ka kn : Nat} {r : Option Nat} {w w' : World} (h : AK ka r w w') : AN ka kn r w w' := ⟨h.os, h.tape, h.output, h.size, fun k h1 h2 _ h3 => h.block k h1 h2 h3⟩
theorem AN.refl (ka kn : Nat) (r : Option Nat) (w : World) : AN ka kn r w w := ⟨rfl, rfl, rfl, Nat.le_refl _, fun _ _ _ _ _ => rfl⟩
theorem AN.set {ka kn : Nat} {r : Option Nat} {w : World} (i : Nat) (v : Value) : AN ka kn r w (w.setCell ⟨kn, i, none⟩ v) := ⟨rfl, rfl, rfl, by simp [World.setCell], fun k _ _ h2 _ => heap_setCell_other _ ⟨kn, i, none⟩ _ _ h2⟩
theorem AN.trans {ka kn : Nat} {sv sv' : Value} {a b c : World} (h : AN ka kn sv.ownBlock a b) (k : AN ka kn sv'.ownBlock b c) (hr : Fr a sv sv') : AN ka kn sv.ownBlock a c :=
  ⟨k.os.trans h.os, k.tape.trans h.tape, k.output.trans h.output, Nat.le_trans h.size k.size, fun i hi h1 h2 h3 => by
    rw [k.block i (by have := h.size; omega) h1 h2 (fun e => ?_), h.block i hi h1 h2 h3]
    rcases hr i e.symm with e' | e'
    · exact h3 e'.symm
    · omega⟩
/-- The second block is a new one. -/
theorem AN.ak {ka kn : Nat} {sv sv' : Value} {a b c : World} (h : AK ka sv.ownBlock a b) (k : AN ka kn sv'.ownBlock b c) (hr : Fr a sv sv') (hn : a.heap.size ≤ kn) : AK ka sv.ownBlock a c :=
  ⟨k.os.trans h.os, k.tape.trans h.tape, k.output.trans h.output, Nat.le_trans h.size k.size, fun i hi h1 h2 => by
    rw [k.block i (by have := h.size; omega) h1 (by omega) (fun e => ?_), h.block i hi h1 h2]
    rcases hr i e.symm with e' | e'
    · exact h2 e'.symm
    · omega⟩
theorem AK.transF {ka : Nat} {sv sv' : Value} {a b c : World} (h : AK ka sv.ownBlock a b) (k : AK ka sv'.ownBlock b c) (hr : Fr a sv sv') : AK ka sv.ownBlock a c := h.trans k hr
theorem RowAt.an {ka kn k : Nat} {r : Option Nat} {w w' : World} {cs : Array Value} {T : TypeId} (h : RowAt w k cs T) (ha : AN ka kn r w w') (h1 : k ≠ ka) (h2 : k ≠ kn) (h3 : r ≠ some k) : RowAt w' k cs T := by
  unfold RowAt
  rw [ha.block k h.lt h1 h2 (fun e => h3 e.symm)]
  exact h
theorem Fr.ne {w : World} {sv sv' : Value} (h : Fr w sv sv') {k : Nat} (hk : k < w.heap.size) (hn : sv.ownBlock ≠ some k) : sv'.ownBlock ≠ some k := fun e => by
  rcases h k e with e | e
  · exact hn e
  · omega

/-- The arena's state: where its row of nodes lies. -/
def AS (w : World) (ka : Nat) (sv : Value) (ns : List Nd) : Prop := RowAt w ka #[sv] 132 ∧ ON w (ka + 1) sv ns
theorem AS.below {w w' : World} {ka : Nat} {sv : Value} {ns : List Nd} (h : AS w ka sv ns) (hb : Below w.heap.size w w') : AS w' ka sv ns := ⟨h.1.belowS hb, h.2.below hb (Nat.le_refl _)⟩
theorem AS.own {w : World} {ka : Nat} {sv : Value} {ns : List Nd} (h : AS w ka sv ns) : ∀ g, sv.ownBlock = some g → ka + 1 ≤ g ∧ g < w.heap.size := fun g e => World.ownsRow.lt h.2 g e
theorem AS.other {w : World} {ka kn : Nat} {sv : Value} {ns : List Nd} (h : AS w ka sv ns) (h1 : kn ≠ ka) (h2 : sv.ownBlock ≠ some kn) (i : Nat) (v : Value) : AS (w.setCell ⟨kn, i, none⟩ v) ka sv ns := by
  refine ⟨h.1.other ⟨kn, i, none⟩ v (Ne.symm h1), h.2.1, ?_⟩
  rcases h.2.2 with h' | ⟨g, cap, cur, hv, hg, hc, r⟩
  · exact .inl h'
  · exact .inr ⟨g, cap, cur, hv, hg, by rw [heap_setCell_other _ ⟨kn, i, none⟩ _ _ (fun e => h2 (by subst hv; simp only [Value.ownBlock]; exact congrArg some e))]; exact hc, r⟩
/-- A row of pairs that lies apart from the arena. -/
def AR (w : World) (ka kn : Nat) (sv v : Value) (l : List Pr) : Prop := RP w v l ∧ (l = [] ∨ ∀ b, v.ownBlock = some b → b ≠ ka ∧ b ≠ kn ∧ sv.ownBlock ≠ some b)
theorem RP.blk {w : World} {v : Value} {l : List Pr} (h : RP w v l) (hl : l ≠ []) : ∀ b, v.ownBlock = some b → b < w.heap.size := fun b e => by
  rcases h with ⟨_, h⟩ | ⟨a, cap, rfl, h1, h2, hc⟩
  · exact absurd h hl
  · cases l with
    | nil => exact absurd rfl hl
    | cons p l =>
      have h0 := block_lt_of_cell (hc 0 (.string (mkS p.1)) rfl)
      have hb : (a.add 0).block = a.block := by rw [Addr.add_zero']
      simp only [Value.ownBlock, Option.some.injEq] at e
      omega
theorem RP.keep {w w' : World} {v : Value} {l : List Pr} (h : RP w v l) (hk : l ≠ [] → ∀ b, v.ownBlock = some b → w'.heap[b]? = w.heap[b]?) : RP w' v l := by
  rcases h with h | ⟨a, cap, rfl, h1, h2, hc⟩
  · exact .inl h
  · refine .inr ⟨a, cap, rfl, h1, h2, fun j u hj => ?_⟩
    have hl : l ≠ [] := fun e => by subst e; simp [flat] at hj
    have hb : (a.add j).block = a.block := by unfold Addr.add; split <;> rfl
    exact (World.cell?_of_block (w := w) (w' := w') (a := a.add j) (by rw [hb]; exact hk hl a.block rfl)).trans (hc j u hj)
theorem AR.step {w w' : World} {ka kn : Nat} {sv sv' v : Value} {l : List Pr} (h : AR w ka kn sv v l) (ha : AN ka kn sv.ownBlock w w') (hf : Fr w sv sv') : AR w' ka kn sv' v l := by
  obtain ⟨h1, h2⟩ := h
  refine ⟨h1.keep fun hl b e => ?_, ?_⟩
  · rcases h2 with h2 | h2
    · exact absurd h2 hl
    · obtain ⟨x1, x2, x3⟩ := h2 b e
      exact ha.block b (h1.blk hl b e) x1 x2 (fun e => x3 e.symm)
  · by_cases hl : l = []
    · exact .inl hl
    · rcases h2 with h2 | h2
      · exact .inl h2
      · exact .inr fun b e => ⟨(h2 b e).1, (h2 b e).2.1, hf.ne (h1.blk hl b e) (h2 b e).2.2⟩
theorem AR.below {w w' : World} {ka kn : Nat} {sv v : Value} {l : List Pr} (h : AR w ka kn sv v l) (hb : Below w.heap.size w w') : AR w' ka kn sv v l := ⟨RP.below h.1 hb (Nat.le_refl _), h.2⟩
/-- A row that has just been made. -/
theorem AR.new {w0 w : World} {ka kn : Nat} {sv v : Value} {l : List Pr} (h : RP w v l) (hn : ∀ g, v.ownBlock = some g → w0.heap.size ≤ g) (h1 : ka < w0.heap.size) (h2 : kn < w0.heap.size) (h3 : ∀ g, sv.ownBlock = some g → g < w0.heap.size) : AR w ka kn sv v l :=
  ⟨h, .inr fun b e => ⟨by have := hn b e; omega, by have := hn b e; omega, fun e2 => by have := hn b e; have := h3 b e2; omega⟩⟩

/-- What build answers. -/
def BuildAns (ka : Nat) (sv : Value) (r : List Nd × Int) (w : World) (e : Ending) (w' : World) : Prop := ∃ sv', e = .returned (.int .i64 r.2) ∧ AS w' ka sv' r.1 ∧ AK ka sv.ownBlock w w' ∧ Fr w sv sv'
def BuildC (f : Nat) : Prop := ∀ (l : List Pr) (ns : List Nd) (ka : Nat) (sv v : Value) (w : World), sortP l → halfP l → (∀ p ∈ l, p.1.length < f) → l.length ≤ 1000 → ns.length + f * l.length ≤ 500000 → AS w ka sv ns → AR w ka ka sv v l →
  Calls Try.prog 78 #[.pointer (some ⟨ka, 0, none⟩), v] w (BuildAns ka sv (layF f l ns) w)

/-- What one group of pairs makes of the arena and of the branch. -/
def StepAns (ka kn : Nat) (sv : Value) (nd : Nd) (c : Nat) (r : List Nd × Int) (w : World) (e : Ending) (w' : World) : Prop := ∃ sv', e = .returned (.tuple #[]) ∧ AS w' ka sv' r.1 ∧ RowAt w' kn (ndc { nd with kids := nd.kids.set c r.2 }) 88 ∧ AN ka kn sv.ownBlock w w' ∧ Fr w sv sv'
set_option maxHeartbeats 8000000 in
theorem step_any (f : Nat) (ih : BuildC f) (c : Nat) (l : List Pr) (ns : List Nd) (nd : Nd) (ka kn kx : Nat) (sv v : Value) (w : World) (hc : c < 16) (hs : sortP (cutK 1 l)) (hh : halfP (cutK 1 l)) (hk : ∀ p ∈ l, 1 ≤ p.1.length) (hz : ∀ p ∈ l, p.1.length < f + 1) (hl : l.length ≤ 1000) (hn : ns.length + f * l.length ≤ 500000)
    (ha : AS w ka sv ns) (hr : AR w ka kn sv v l) (hnd : RowAt w kn (ndc nd) 88) (hkl : nd.kids.length = 16) (hx : RowAt w kx #[.pointer (some ⟨ka, 0, none⟩)] 130) (e1 : kn ≠ ka) (e2 : kx ≠ ka) (_e3 : kx ≠ kn) (e4 : sv.ownBlock ≠ some kn) (e5 : sv.ownBlock ≠ some kx) :
    Calls Try.prog 131 #[.int .u8 c, v, .pointer (some ⟨kx, 0, none⟩), .pointer (some ⟨kn, 0, none⟩)] w (StepAns ka kn sv nd c (layF f (cutK 1 l) ns) w) := by
  have hlc : (cutK 1 l).length = l.length := List.length_map _
  have KL := Lib.hid (fun W (hb : Below w.heap.size w W) => less_any l 1 v W (RP.below hr.1 hb (Nat.le_refl _)) (by omega) hk (by omega))
  rw [show ((1 : Nat) : Int) = 1 from rfl] at KL
  have KB := Lib.hid (fun v2 W (h2 : RP W v2 (cutK 1 l)) (h3 : ∀ g, v2.ownBlock = some g → w.heap.size ≤ g) (hb : Below w.heap.size w W) => ih (cutK 1 l) ns ka sv v2 W hs hh (fun p hp => by
    obtain ⟨q, hq, rfl⟩ := List.mem_map.1 hp
    have := hz q hq
    have := hk q hq
    show (q.1.drop 1).length < f
    rw [List.length_drop]; omega) (by omega) (by rw [hlc]; exact hn) (ha.below hb) (AR.new h2 h3 ha.1.lt ha.1.lt (fun g e => (ha.own g e).2)))
  generalize layF f (cutK 1 l) ns = r at *
  obtain ⟨ms, ix⟩ := r
  obtain ⟨p, cp, rfl, z1, z2⟩ := RowE.shape encP hr.1
  have HA := Lib.hid ha
  have HR := Lib.hid hr
  have HN := Lib.hid hnd
  have HX := Lib.hid hx
  have hci : (c : Int) < 16 := by omega
  clear ha hr hnd hx hs hh hk hz hl hn ih hlc
  go_enter Try.func131, Try.ntmps131
  have q0 : ∀ u : InC (fun W' => AK ka sv.ownBlock w.drew W'), u.w.cell? ⟨kx, 0, none⟩ = some (.pointer (some ⟨ka, 0, none⟩)) := fun u => (RowAt.ak HX.out.drew u.is e2 e5).cell 0
  haveI : Nonempty (InC (fun W' => AK ka sv.ownBlock w.drew W')) := ⟨⟨w.drew, AK.refl _ _ _⟩⟩
  (refine region_order [0, 1, 2, 5] [3, 4] 6 (fun W' => AK ka sv.ownBlock w.drew W') mix ?hB ?hC ?_; case hB => kernel_rfl); (case hC => (exact AK.refl _ _ _)); (iterate 4 ((with_reducible refine xr_step ?_); (refine ⟨_, rfl, ?_⟩); intro K hK; go_simp; (with_reducible refine hK _ ?_); clear hK K)); (with_reducible refine xr_nil ?_); ((with_reducible refine xe_step ?_); (refine ⟨_, rfl, ?_⟩); intro K hK; unfold EX; go_simp; (go_at_call 129; (with_reducible refine (KL.out _ (Below.refl _ _).drew).mono ?_); rintro e w2 ⟨v2, rfl, hr2, hn2, hb2⟩; refine ⟨_, rfl, AK.ofBelow hb2, hK _ _ ?_⟩; clear hK K)); ((with_reducible refine xe_step ?_); (refine ⟨_, rfl, ?_⟩); intro K hK; unfold EX; go_simp; (go_at_call 78; (with_reducible refine (KB.out v2 w2 hr2 (fun g hg => Nat.le_trans (Below.refl w.heap.size w).drew.size (hn2 g hg)) ((Below.refl w.heap.size w).drew.trans (hb2.mono (Below.refl w.heap.size w).drew.size))).mono ?_); rintro e w3 ⟨sv3, rfl, ha3, hk3, hf3⟩; refine ⟨_, rfl, (AK.ofBelow (ka := ka) (r := sv.ownBlock) hb2).same hk3, hK _ _ ?_⟩; clear hK K)); (with_reducible refine xe_nil ?_); (simp only [List.drop_succ_cons, List.drop_zero])
  have HB2 := (Below.refl w.heap.size w).drew.trans (hb2.mono (Below.refl w.heap.size w).drew.size)
  have AKT := (AK.ofBelow (ka := ka) (r := sv.ownBlock) HB2).same hk3
  have HN3 := Lib.hid ((HN.out.belowS HB2).ak hk3 e1 e4)
  have HF := Lib.hid (show Fr w sv sv3 from fun g hg => (hf3 g hg).imp id (fun h => Nat.le_trans HB2.size h))
  have HE := Lib.hid (HF.out.ne HN.out.lt e4)
  have HA3 := Lib.hid (ha3.other (kn := kn) e1 HE.out (3 + c) (.int .i64 ix))
  have AN3 := Lib.hid ((AK.an (kn := kn) AKT).trans (AN.set (ka := ka) (r := sv3.ownBlock) (3 + c) (.int .i64 ix)) HF.out)
  have HN4 := Lib.hid (HN3.out.ndKid hkl c hc ix)
  obtain ⟨c3, f3⟩ := HN3.out.ndK c hc
  clear q0 this HB2 AKT HN3 ha3 hk3 hf3 hr2 hn2 hb2 KL KB HA HR HN HX
  go_wp2
  refine bodyPost_end (results_none rfl _ _ _) rfl ?_
  exact ⟨sv3, rfl, HA3.out, HN4.out, AN3.out, HF.out⟩
end Go.Proofs.Ytefmlbckbhlgdaa
namespace Go.Proofs.Ytefmlbckbhlgdaa
open Go.RowKit Go.Shelf
set_option maxRecDepth 100000
/-- The pairs whose keys begin with m or more. -/
def restL (m : Nat) (l : List Pr) : List Pr := l.filter fun p => decide (m < headN p)
theorem restL_zero {l : List Pr} (h : ∀ p ∈ l, 1 ≤ p.1.length) : restL 0 l = l := List.filter_eq_self.2 fun p hp => by
  have := h p hp
  obtain ⟨k, v⟩ := p
  cases k with
  | nil => simp at this
  | cons x k => simp [headN]
theorem headN_at {p : Pr} {x : UInt8} {r : List UInt8} (h : p.1 = x :: r) : headN p = x.toNat + 1 := by
  obtain ⟨k, v⟩ := p
  simp only at h
  subst h
  rfl
/-- A row that does not fall is cut where its first number ends. -/
theorem cut_at {α : Type} (g : α → Nat) (h : Nat) {R : List α} {j : Nat} (hs : R.Pairwise fun a b => g a ≤ g b) (hall : ∀ a ∈ R, h ≤ g a) (ht : ∀ a ∈ R.take j, g a = h) (hd : ∀ a, R[j]? = some a → g a ≠ h) :
    R.take j = R.filter (fun a => g a == h) ∧ R.drop j = R.filter fun a => decide (h < g a) := by
  have hdr : ∀ a ∈ R.drop j, h < g a := fun a ha => by
    cases e : R[j]? with
    | none =>
      rw [List.getElem?_eq_none_iff] at e
      rw [List.drop_eq_nil_of_le e] at ha
      cases ha
    | some b =>
      obtain ⟨hlt, eb⟩ := List.getElem?_eq_some_iff.1 e
      have hb := hall b (List.mem_of_getElem? e)
      have hb2 := hd b e
      have hsd : (R.drop j).Pairwise fun a b => g a ≤ g b := hs.drop
      rw [List.drop_eq_getElem_cons hlt, eb] at ha hsd
      rcases List.mem_cons.1 ha with rfl | ha
      · omega
      · have := (List.pairwise_cons.1 hsd).1 a ha
        omega
  have e1 : (R.take j).filter (fun a => g a == h) = R.take j := List.filter_eq_self.2 fun a ha => by simp [ht a ha]
  have e2 : (R.drop j).filter (fun a => g a == h) = [] := List.filter_eq_nil_iff.2 fun a ha => by have := hdr a ha; simp; omega
  have e3 : (R.take j).filter (fun a => decide (h < g a)) = [] := List.filter_eq_nil_iff.2 fun a ha => by have := ht a ha; simp; omega
  have e4 : (R.drop j).filter (fun a => decide (h < g a)) = R.drop j := List.filter_eq_self.2 fun a ha => by simp [hdr a ha]
  constructor
  · conv => rhs; rw [← List.take_append_drop j R]
    rw [List.filter_append, e1, e2, List.append_nil]
  · conv => rhs; rw [← List.take_append_drop j R]
    rw [List.filter_append, e3, e4, List.nil_append]

/-- The nodes and the kids behind the groups below m. -/
def nsF (f : Nat) (l : List Pr) (ns : List Nd) (m : Nat) : List Nd := (kidsF f l (List.range m) (ns, [])).1
def ksF (f : Nat) (l : List Pr) (ns : List Nd) (m : Nat) : List Int := (kidsF f l (List.range m) (ns, [])).2
def padK (ks : List Int) (m : Nat) : List Int := ks ++ List.replicate (16 - m) (-1)
theorem ksF_len (f : Nat) (l : List Pr) (ns : List Nd) (m : Nat) : (ksF f l ns m).length = m := by unfold ksF; rw [kidsF_map]; simp
theorem skip_one {f : Nat} {l : List Pr} {ns : List Nd} {m : Nat} (hm : m < 16) (h : cutC m l = []) : nsF f l ns (m + 1) = nsF f l ns m ∧ padK (ksF f l ns (m + 1)) (m + 1) = padK (ksF f l ns m) m := by
  unfold nsF ksF padK
  rw [kidsF_range, h, layF_nil]
  refine ⟨rfl, ?_⟩
  rw [show 16 - m = (16 - (m + 1)) + 1 by omega, List.replicate_succ, List.append_assoc]
  rfl
theorem skip_to {f : Nat} {l : List Pr} {ns : List Nd} {m : Nat} : ∀ d, m + d ≤ 16 → (∀ c, m ≤ c → c < m + d → cutC c l = []) → nsF f l ns (m + d) = nsF f l ns m ∧ padK (ksF f l ns (m + d)) (m + d) = padK (ksF f l ns m) m
  | 0, _, _ => ⟨rfl, rfl⟩
  | d + 1, h1, h2 => by
    obtain ⟨a, b⟩ := skip_to (f := f) (l := l) (ns := ns) (m := m) d (by omega) fun c h3 h4 => h2 c h3 (by omega)
    obtain ⟨a', b'⟩ := skip_one (f := f) (l := l) (ns := ns) (m := m + d) (by omega) (h2 (m + d) (by omega) (by omega))
    exact ⟨a'.trans a, b'.trans b⟩
theorem padK_set {ks : List Int} {m : Nat} (h : ks.length = m) (hm : m < 16) (x : Int) : (padK ks m).set m x = padK (ks ++ [x]) (m + 1) := by
  unfold padK
  rw [List.set_append_right _ _ (by omega), h, Nat.sub_self, show 16 - m = (16 - (m + 1)) + 1 by omega, List.replicate_succ, List.set_cons_zero, List.append_assoc]
  rfl
theorem padK_len {ks : List Int} {m : Nat} (h : ks.length = m) (hm : m ≤ 16) : (padK ks m).length = 16 := by unfold padK; simp; omega
theorem nsF_succ (f : Nat) (l : List Pr) (ns : List Nd) (c : Nat) : nsF f l ns (c + 1) = (layF f (cutC c l) (nsF f l ns c)).1 := by unfold nsF; rw [kidsF_range]
theorem ksF_succ (f : Nat) (l : List Pr) (ns : List Nd) (c : Nat) : ksF f l ns (c + 1) = ksF f l ns c ++ [(layF f (cutC c l) (nsF f l ns c)).2] := by unfold ksF nsF; rw [kidsF_range]
theorem cutC_empty {c : Nat} {l : List Pr} (h : ∀ p ∈ l, headN p ≠ c + 1) : cutC c l = [] := by
  have : l.filter (hasC c) = [] := List.filter_eq_nil_iff.2 fun p hp => by rw [← headN_hasC]; simpa using h p hp
  unfold cutC
  rw [this]; rfl
theorem filter_head (c : Nat) (l : List Pr) : l.filter (fun p => headN p == c + 1) = l.filter (hasC c) := List.filter_congr fun p _ => headN_hasC c p

/-- A group of pairs, as far as it goes, and what stands behind it. -/
theorem group_at {f : Nat} {l : List Pr} {ns : List Nd} {m c j : Nat} {x : Pr} {t : List Pr} (hs : sortP l) (hm : m ≤ c) (hc : c < 16) (hR : restL m l = x :: t) (hx : headN x = c + 1) (ht : ∀ a ∈ (x :: t).take j, headN a = c + 1) (hd : ∀ a, (x :: t)[j]? = some a → headN a ≠ c + 1) :
    (x :: t).take j = l.filter (hasC c) ∧ (x :: t).drop j = restL (c + 1) l ∧ nsF f l ns c = nsF f l ns m ∧ padK (ksF f l ns c) c = padK (ksF f l ns m) m := by
  have hw : l.Pairwise (fun a b => headN a ≤ headN b) := List.Pairwise.imp (fun h => headN_le h) hs
  have hwR : (x :: t).Pairwise (fun a b => headN a ≤ headN b) := by rw [← hR]; exact hw.filter _
  have hall : ∀ a ∈ x :: t, c + 1 ≤ headN a := fun a ha => by
    rcases List.mem_cons.1 ha with rfl | ha
    · omega
    · have := (List.pairwise_cons.1 hwR).1 a ha; omega
  obtain ⟨e1, e2⟩ := cut_at headN (c + 1) hwR hall ht hd
  have hmem : ∀ p ∈ l, m < headN p → c + 1 ≤ headN p := fun p hp h => hall p (by rw [← hR]; exact List.mem_filter.2 ⟨hp, by simpa using h⟩)
  refine ⟨?_, ?_, ?_⟩
  · rw [e1, ← hR, filter_head]
    unfold restL
    rw [List.filter_filter]
    refine List.filter_congr fun p hp => ?_
    rw [← headN_hasC]
    by_cases h : headN p = c + 1
    · simp [h]; omega
    · simp [h]
  · rw [e2, ← hR]
    unfold restL
    rw [List.filter_filter]
    refine List.filter_congr fun p hp => ?_
    by_cases h : c + 1 < headN p
    · simp [h]; omega
    · simp [h]
  · have := skip_to (f := f) (l := l) (ns := ns) (m := m) (c - m) (by omega) fun d h1 h2 => cutC_empty fun p hp e => by
      have := hmem p hp (by omega)
      omega
    rw [show m + (c - m) = c by omega] at this
    exact this
theorem rest_nil {f : Nat} {l : List Pr} {ns : List Nd} {m : Nat} (hm : m ≤ 16) (hR : restL m l = []) : nsF f l ns 16 = nsF f l ns m ∧ padK (ksF f l ns 16) 16 = padK (ksF f l ns m) m := by
  have := skip_to (f := f) (l := l) (ns := ns) (m := m) (16 - m) (by omega) fun d h1 h2 => cutC_empty fun p hp e => by
    have : p ∈ restL m l := List.mem_filter.2 ⟨hp, by simp; omega⟩
    rw [hR] at this
    cases this
  rw [show m + (16 - m) = 16 by omega] at this
  exact this
end Go.Proofs.Ytefmlbckbhlgdaa
namespace Go.Proofs.Ytefmlbckbhlgdaa
open Go.RowKit Go.Shelf
set_option maxRecDepth 100000
def lenOf : Value → Nat
  | .slice _ n _ => n
  | _ => 0
theorem RP.drop {w : World} {a : Addr} {n c i : Nat} {l : List Pr} (h : RP w (.slice (some a) n c) l) (hi : i ≤ l.length) : RP w (.slice (some (a.add (i * 2))) (n - i) (c - i)) (l.drop i) := by
  rcases h with ⟨hv, _⟩ | ⟨a', cap, hv, h1, h2, hc⟩
  · cases hv
  · injection hv with e1 e2 e3
    injection e1 with e1
    subst e1 e2 e3
    refine .inr ⟨_, _, by rw [List.length_drop], by rw [List.length_drop]; omega, by omega, fun j u hj => ?_⟩
    have h := hc (i * 2 + j) u (by rw [show (flat encP (l.drop i))[j]? = ((flat encP l).drop (i * 2))[j]? from by rw [show i * 2 = i * encP.k from rfl, flat_drop]] at hj; rwa [List.getElem?_drop] at hj)
    rw [← Go.Deep.add_add] at h
    exact h
theorem RP.empty (w : World) (p : Option Addr) (hp : p ≠ none) (c : Nat) (hc : c ≤ maxLen) : RP w (.slice p 0 c) [] := by
  cases p with
  | none => exact absurd rfl hp
  | some a => exact .inr ⟨a, c, rfl, Nat.zero_le _, hc, fun j u hj => by simp [flat] at hj⟩

def EachAns (ka kn : Nat) (sv : Value) (nd : Nd) (ns : List Nd) (ks : List Int) (w : World) (e : Ending) (w' : World) : Prop := ∃ sv', e = .returned (.tuple #[]) ∧ AS w' ka sv' ns ∧ RowAt w' kn (ndc { nd with kids := ks }) 88 ∧ AN ka kn sv.ownBlock w w' ∧ Fr w sv sv'
set_option maxHeartbeats 8000000 in
theorem each_any (f : Nat) (ih : BuildC f) (l : List Pr) (ns : List Nd) (nd : Nd) (ka kn kx : Nat) (sv v : Value) (w : World) (hs : sortP l) (hh : halfP l) (hk : ∀ p ∈ l, 1 ≤ p.1.length) (hz : ∀ p ∈ l, p.1.length < f + 1) (hl : l.length ≤ 1000) (hn : ns.length + f * l.length ≤ 500000) (_hf : f ≤ 1000)
    (ha : AS w ka sv ns) (hr : AR w ka kn sv v l) (hnd : RowAt w kn (ndc nd) 88) (hkl : nd.kids = noKids) (hx : RowAt w kx #[.pointer (some ⟨ka, 0, none⟩)] 130) (e1 : kn ≠ ka) (e2 : kx ≠ ka) (e3 : kx ≠ kn) (e4 : sv.ownBlock ≠ some kn) (e5 : sv.ownBlock ≠ some kx) :
    Calls Try.prog 130 #[v, .func (.func 131) #[] #[.pointer (some ⟨kx, 0, none⟩), .pointer (some ⟨kn, 0, none⟩)]] w (EachAns ka kn sv nd (nsF f l ns 16) (padK (ksF f l ns 16) 16) w) := by
  have eg : ∀ args w, (callFunc 131 args).run Try.prog w = .ok (.enter 131 args) w := fun args w => by kernel_rfl
  -- one group
  have KS := Lib.hid (fun (m c : Nat) (sv1 v1 : Value) (W : World) (hc : c < 16) (k1 : AS W ka sv1 (nsF f l ns c)) (k2 : AR W ka kn sv1 v1 (l.filter (hasC c))) (k3 : RowAt W kn (ndc { nd with kids := padK (ksF f l ns c) c }) 88) (k4 : RowAt W kx #[.pointer (some ⟨ka, 0, none⟩)] 130) (k5 : sv1.ownBlock ≠ some kn) (k6 : sv1.ownBlock ≠ some kx) =>
    step_any f ih c (l.filter (hasC c)) (nsF f l ns c) { nd with kids := padK (ksF f l ns c) c } ka kn kx sv1 v1 W hc (sortP_cutC hs) (halfP_cutC hh) (fun p hp => hk p (List.mem_filter.1 hp).1) (fun p hp => hz p (List.mem_filter.1 hp).1)
      (Nat.le_trans (List.length_filter_le _ _) hl) (by
        have h1 := kidsF_len f l ns c
        have h2 := cutC_sum l (c + 1)
        rw [List.range_succ, List.map_append, List.sum_append] at h2
        simp only [List.map_cons, List.map_nil, List.sum_cons, List.sum_nil, Nat.add_zero] at h2
        have h3 := Nat.mul_le_mul_left f h2
        rw [Nat.mul_add] at h3
        have h4 : (cutC c l).length = (l.filter (hasC c)).length := List.length_map _
        rw [h4] at h3
        unfold nsF
        omega) k1 k2 k3 (padK_len (ksF_len _ _ _ _) (by omega)) k4 e1 e2 e3 k5 k6)
  have HR0 : Hid (restL 0 l = l) := Lib.hid (restL_zero hk)
  have HK0 : Hid (padK (ksF f l ns 0) 0 = nd.kids) := Lib.hid (by rw [hkl]; rfl)
  have HG := Lib.hid (fun (m c j : Nat) (x : Pr) (t : List Pr) => @group_at f l ns m c j x t hs)
  have HNIL := Lib.hid (fun (m : Nat) => @rest_nil f l ns m)
  have HH := Lib.hid (fun (x : Pr) (hx : x ∈ l) => (⟨hk x hx, hh x hx⟩ : 1 ≤ x.1.length ∧ x.1.all (· < 16) = true))
  have HA := Lib.hid ha
  have HR := Lib.hid hr
  have HN := Lib.hid hnd
  have HX := Lib.hid hx
  have HLL := Lib.hid hl
  have HKN := Lib.hid hnd.lt
  clear ha hr hnd hx hs hh hk hz hl hn ih hkl _hf
  go_enter Try.func130, Try.ntmps130
  go_upto_region 0 with (fail)
  go_loopw [0] (fun s0 wr => ∃ (m : Nat) (sv1 : Value), m ≤ 16 ∧ Hid (AS wr ka sv1 (nsF f l ns m)) ∧ Hid (AR wr ka kn sv1 s0 (restL m l)) ∧ Hid (RowAt wr kn (ndc { nd with kids := padK (ksF f l ns m) m }) 88) ∧ Hid (AN ka kn sv.ownBlock w wr) ∧ Hid (Fr w sv sv1)) (fun s0 _ => lenOf s0)
  case atStart => exact ⟨0, sv, Nat.zero_le _, HA, by rw [HR0.out]; exact HR, by rw [HK0.out]; exact HN, Lib.hid (AN.refl _ _ _ _), Lib.hid (Fr.refl _ _)⟩
  case round =>
    clear HA HR HN HR0 HK0
    obtain ⟨m, sv1, hm, ha, hr, hn, hb, hf⟩ := hrel
    have HA := Lib.hid ha.out
    have HR := Lib.hid hr.out
    have HN := Lib.hid hn.out
    have HB := Lib.hid hb.out
    have HF := Lib.hid hf.out
    clear ha hr hn hb hf
    cases hR : restL m l with
    | nil =>
      have hh := HNIL.out m hm hR
      rw [hR] at HR
      obtain ⟨p, c, rfl, z1, z2⟩ := RowE.shape encP HR.out.1
      simp only [List.length_nil] at *
      have HA2 := Lib.hid (show AS wr ka sv1 (nsF f l ns 16) by rw [hh.1]; exact HA.out)
      have HN2 := Lib.hid (show RowAt wr kn (ndc { nd with kids := padK (ksF f l ns 16) 16 }) 88 by rw [hh.2]; exact HN.out)
      clear hh HA HN HG HNIL hR
      go_wp2
      refine bodyPost_end (results_none rfl _ _ _) rfl ?_
      exact ⟨sv1, rfl, HA2.out, HN2.out, HB.out, HF.out⟩
    | cons x t =>
      rw [hR] at HR
      obtain ⟨p, cp, rfl, z1, z2⟩ := RowE.shape encP HR.out.1
      obtain ⟨a, rfl, c0, -⟩ := RP.at HR.out.1 (i := 0) rfl
      rw [Nat.zero_mul, Addr.add_zero'] at c0
      have hml : ∀ q ∈ x :: t, q ∈ l := fun q hq => by rw [← hR] at hq; exact (List.mem_filter.1 hq).1
      have hmm : ∀ q ∈ x :: t, m < headN q := fun q hq => by rw [← hR] at hq; simpa using (List.mem_filter.1 hq).2
      obtain ⟨y, ys, hxy⟩ : ∃ y ys, x.1 = y :: ys := by
        have := (HH.out x (hml x List.mem_cons_self)).1
        match h : x.1, this with
        | y :: ys, _ => exact ⟨y, ys, rfl⟩
      obtain ⟨c, hc⟩ : ∃ c, y.toNat = c := ⟨_, rfl⟩
      have hxc : headN x = c + 1 := by rw [headN_at hxy, hc]
      have hc16 : c < 16 := by
        have := (HH.out x (hml x List.mem_cons_self)).2
        rw [hxy, List.all_cons, Bool.and_eq_true, decide_eq_true_eq, UInt8.lt_iff_toNat_lt] at this
        have h16 : (16 : UInt8).toNat = 16 := rfl
        omega
      have hmc : m ≤ c := by have := hmm x List.mem_cons_self; omega
      obtain ⟨hi0, hg0⟩ := at_byte (s := mkS x.1) (i := 0) (c := y) (by rw [bl_mk, hxy]; rfl)
      have hgc : ((mkS x.1)[0]'hi0).toNat = c := by rw [hg0]; exact hc
      have hi1 : (0 : Int) < ((mkS x.1).size : Int) := by omega
      have hpos : 0 < (x :: t).length := by rw [List.length_cons]; omega
      have hn1 : (x :: t).length ≤ 1000 := by
        have h1 : (restL m l).length ≤ l.length := List.length_filter_le _ _
        rw [hR] at h1
        exact Nat.le_trans h1 HLL.out
      generalize hlen : (x :: t).length = n at *
      replace hlen := Lib.hid hlen
      have HML := Lib.hid hml
      have HXC := Lib.hid hxc
      have HRR := Lib.hid hR
      clear hml hmm hxy hg0 hR hxc
      go_upto_region 3 with (fail)
      clear c0
      have HT0 : Hid (∀ q ∈ (x :: t).take 0, headN q = c + 1) := Lib.hid (fun q hq => by simp at hq)
      go_loopw [5] (fun s5 w' => ∃ j : Nat, j ≤ n ∧ s5 = .int .i64 j ∧ Hid (∀ q ∈ (x :: t).take j, headN q = c + 1) ∧ wr = w') (fun s5 _ => n - (intOf s5).toNat)
      case atStart => exact ⟨0, Nat.zero_le _, rfl, HT0, rfl⟩
      case round =>
        clear HT0
        obtain ⟨j, hj, rfl, ht, rfl⟩ := hrel
        have HT := Lib.hid ht.out
        have hR := HRR.out
        have hxc := HXC.out
        clear ht
        by_cases hlt : j < n
        · obtain ⟨q, hq⟩ : ∃ q, (x :: t)[j]? = some q := ⟨_, List.getElem?_eq_getElem (by rw [hlen.out]; exact hlt)⟩
          obtain ⟨a', e', d0, -⟩ := RP.at HR.out.1 hq
          obtain rfl := Option.some.inj e'
          obtain ⟨z, zs, hqz⟩ : ∃ z zs, q.1 = z :: zs := by
            have := (HH.out q (HML.out q (List.mem_of_getElem? hq))).1
            match h : q.1, this with
            | z :: zs, _ => exact ⟨z, zs, rfl⟩
          obtain ⟨hi2, hg2⟩ := at_byte (s := mkS q.1) (i := 0) (c := z) (by rw [bl_mk, hqz]; rfl)
          have hgz : ((mkS q.1)[0]'hi2).toNat = z.toNat := by rw [hg2]
          have hi3 : (0 : Int) < ((mkS q.1).size : Int) := by omega
          have hhq := headN_at hqz
          clear hqz hg2 e'
          generalize hzn : z.toNat = zn at *
          by_cases he : zn = c
          · have HT2 := Lib.hid (show ∀ q' ∈ (x :: t).take (j + 1), headN q' = c + 1 from fun q' hq' => by
              rw [List.take_add_one, hq] at hq'
              rcases List.mem_append.1 hq' with h | h
              · exact HT.out q' h
              · simp at h
                subst h
                omega)
            have hbq : ((zn : Int) == (c : Int)) = true := by simp [he]
            clear hhq hq hR hxc he
            go_wp2
            exact ⟨⟨j + 1, by omega, by simp, HT2, by first | rfl | trivial⟩, by simp [intOf]; omega⟩
          · have hstop : ∀ q', (x :: t)[j]? = some q' → headN q' ≠ c + 1 := fun q' h => by
              rw [hq] at h
              obtain rfl := Option.some.inj h
              omega
            have hbq : ((zn : Int) == (c : Int)) = false := beq_eq_false_iff_ne.2 (by omega)
            have hj0 : 0 < j := by
              rcases Nat.eq_zero_or_pos j with h | h
              · subst h; exact absurd hxc (hstop x rfl)
              · exact h
            go_upto_region 5 with (fail)
            clear hhq hq d0 he hbq hgz hi3 hi2
            obtain ⟨g1, g2, g3, g4⟩ := HG.out m c j x t hmc hc16 hR hxc HT.out hstop
            have HA2 := Lib.hid (show AS wr ka sv1 (nsF f l ns c) by rw [g3]; exact HA.out)
            have HN2 := Lib.hid (show RowAt wr kn (ndc { nd with kids := padK (ksF f l ns c) c }) 88 by rw [g4]; exact HN.out)
            have HR2 := Lib.hid (show AR wr ka kn sv1 (.slice (some a) j cp) (l.filter (hasC c)) from by
              rw [← g1]
              refine ⟨RowE.take encP HR.out.1 (by rw [hlen.out]; first | exact hj | exact Nat.le_refl _), ?_⟩
              rcases HR.out.2 with h | h
              · cases h
              · exact .inr h)
            have HD2 := Lib.hid g2
            have HX2 := Lib.hid (HX.out.an HB.out e2 e3 e5)
            have F1 := Lib.hid (HF.out.ne HKN.out e4)
            have F2 := Lib.hid (HF.out.ne HX.out.lt e5)
            clear g1 g2 g3 g4 hstop HT HA HN
            go_upto_region 6 with (go_at_fn 131; (with_reducible refine (KS.out m c sv1 _ wr hc16 HA2.out HR2.out HN2.out HX2.out F1.out F2.out).mono ?_); rintro e w5 ⟨sv2, rfl, ha5, hn5, hb5, hf5⟩; have HA5 := Lib.hid ha5; have HN5 := Lib.hid hn5; have HB5 := Lib.hid hb5; have HF5 := Lib.hid hf5; clear ha5 hn5 hb5 hf5)
            have HAC := Lib.hid (show AS w5 ka sv2 (nsF f l ns (c + 1)) by rw [nsF_succ]; exact HA5.out)
            have HNC := Lib.hid (show RowAt w5 kn (ndc { nd with kids := padK (ksF f l ns (c + 1)) (c + 1) }) 88 by
              have h := HN5.out
              simp only [padK_set (ksF_len f l ns c) hc16] at h
              rw [ksF_succ]
              exact h)
            have HBC := Lib.hid (HB.out.trans HB5.out HF.out)
            have HFC := Lib.hid (HF.out.trans HF5.out HB.out.size)
            have HRX := Lib.hid (HR.out.step HB5.out HF5.out)
            clear HA2 HN2 HR2 HX2 HA5 HN5 HB HF HR HB5 HF5 F1 F2 KS HG HNIL
            have HRD := Lib.hid (show AR w5 ka kn sv2 (.slice (some (a.add (j * 2))) (n - j) (cp - j)) (restL (c + 1) l) from by
              rw [← HD2.out]
              refine ⟨RP.drop HRX.out.1 (by rw [hlen.out]; first | exact hj | exact Nat.le_refl _), ?_⟩
              rcases HRX.out.2 with h | h
              · cases h
              · exact .inr fun b e => h b (by
                  have hb : (a.add (j * 2)).block = a.block := by unfold Addr.add; split <;> rfl
                  simp only [Value.ownBlock, Option.some.injEq] at e ⊢
                  omega))
            have hcj : ¬ cp = j := by omega
            clear HRX HD2
            go_wp2
            exact ⟨⟨c + 1, sv2, by omega, HAC, HRD, HNC, HBC, HFC⟩, by simp [lenOf]; omega⟩
        · obtain rfl : n = j := by omega
          have hstop : ∀ q', (x :: t)[n]? = some q' → headN q' ≠ c + 1 := fun q' h => by
            rw [List.getElem?_eq_none (by rw [hlen.out]; omega)] at h
            cases h
          go_upto_region 5 with (fail)
          obtain ⟨g1, g2, g3, g4⟩ := HG.out m c n x t hmc hc16 hR hxc HT.out hstop
          have HA2 := Lib.hid (show AS wr ka sv1 (nsF f l ns c) by rw [g3]; exact HA.out)
          have HN2 := Lib.hid (show RowAt wr kn (ndc { nd with kids := padK (ksF f l ns c) c }) 88 by rw [g4]; exact HN.out)
          have HR2 := Lib.hid (show AR wr ka kn sv1 (.slice (some a) n cp) (l.filter (hasC c)) from by
            rw [← g1]
            refine ⟨RowE.take encP HR.out.1 (by rw [hlen.out]; first | exact hj | exact Nat.le_refl _), ?_⟩
            rcases HR.out.2 with h | h
            · cases h
            · exact .inr h)
          have HD2 := Lib.hid g2
          have HX2 := Lib.hid (HX.out.an HB.out e2 e3 e5)
          have F1 := Lib.hid (HF.out.ne HKN.out e4)
          have F2 := Lib.hid (HF.out.ne HX.out.lt e5)
          clear g1 g2 g3 g4 hstop HT HA HN
          go_upto_region 6 with (go_at_fn 131; (with_reducible refine (KS.out m c sv1 _ wr hc16 HA2.out HR2.out HN2.out HX2.out F1.out F2.out).mono ?_); rintro e w5 ⟨sv2, rfl, ha5, hn5, hb5, hf5⟩; have HA5 := Lib.hid ha5; have HN5 := Lib.hid hn5; have HB5 := Lib.hid hb5; have HF5 := Lib.hid hf5; clear ha5 hn5 hb5 hf5)
          have HAC := Lib.hid (show AS w5 ka sv2 (nsF f l ns (c + 1)) by rw [nsF_succ]; exact HA5.out)
          have HNC := Lib.hid (show RowAt w5 kn (ndc { nd with kids := padK (ksF f l ns (c + 1)) (c + 1) }) 88 by
            have h := HN5.out
            simp only [padK_set (ksF_len f l ns c) hc16] at h
            rw [ksF_succ]
            exact h)
          have HBC := Lib.hid (HB.out.trans HB5.out HF.out)
          have HFC := Lib.hid (HF.out.trans HF5.out HB.out.size)
          have HRX := Lib.hid (HR.out.step HB5.out HF5.out)
          clear HA2 HN2 HR2 HX2 HA5 HN5 HB HF HR HB5 HF5 F1 F2 KS HG HNIL
          have HRD := Lib.hid (show AR w5 ka kn sv2 (.slice (some (a.add (n * 2))) (n - n) (cp - n)) (restL (c + 1) l) from by
            rw [← HD2.out]
            refine ⟨RP.drop HRX.out.1 (by rw [hlen.out]; first | exact hj | exact Nat.le_refl _), ?_⟩
            rcases HRX.out.2 with h | h
            · cases h
            · exact .inr fun b e => h b (by
                have hb : (a.add (n * 2)).block = a.block := by unfold Addr.add; split <;> rfl
                simp only [Value.ownBlock, Option.some.injEq] at e ⊢
                omega))
          by_cases hcj : cp = n
          · have hre := Lib.hid (show restL (c + 1) l = [] by rw [← HD2.out]; exact List.drop_eq_nil_of_le (by rw [hlen.out]; exact Nat.le_refl _))
            subst hcj
            clear HRX HD2 HRD
            go_wp2
            refine ⟨⟨c + 1, sv2, by omega, HAC, ?_, HNC, HBC, HFC⟩, by simp [lenOf]; omega⟩
            rw [hre.out]
            exact Lib.hid ⟨RP.empty _ _ (by simp) _ (by unfold maxLen; omega), .inl rfl⟩
          · clear HRX HD2
            simp only [Nat.sub_self] at HRD
            go_wp2
            exact ⟨⟨c + 1, sv2, by omega, HAC, HRD, HNC, HBC, HFC⟩, by simp [lenOf]; omega⟩
end Go.Proofs.Ytefmlbckbhlgdaa
namespace Go.Proofs.Ytefmlbckbhlgdaa
open Go.RowKit
section
variable {P : Program} {ops : Array Oper} {md : Region.Mode}
def depM (md : Region.Mode) (o : Oper) (m : Nat) : Nat := o.after.toList.foldl (fun m e => if Region.binds md e = true then m ||| (1 <<< e.on) else m) m
/-- What must have come up ahead of the marked ones. -/
def closeD (md : Region.Mode) (ops : Array Oper) : Nat → Nat → Nat
  | 0, m => m
  | n + 1, m => closeD md ops n (match ops[n]? with
    | some o => if m.testBit n = true then depM md o m else m
    | none => m)
def needsB (md : Region.Mode) (ops : Array Oper) (k k' : Nat) : Bool := match ops[k]? with
  | some o => (closeD md ops ops.size (depM md o 0)).testBit k'
  | none => false

theorem depM_ok {L : Nat → Prop} {o : Oper} (h : ∀ e ∈ o.after, Region.binds md e = true → L e.on) : ∀ {m : Nat}, (∀ b, m.testBit b = true → L b) → ∀ b, (depM md o m).testBit b = true → L b := by
  unfold depM
  replace h : ∀ e ∈ o.after.toList, Region.binds md e = true → L e.on := fun e he => h e (Array.mem_toList_iff.1 he)
  generalize o.after.toList = l at h
  induction l with
  | nil => intro m hm b hb; exact hm b hb
  | cons e l ih =>
    intro m hm b hb
    rw [List.foldl_cons] at hb
    refine ih (fun e' he' => h e' (by simp [he'])) (m := if Region.binds md e = true then m ||| (1 <<< e.on) else m) (fun b hb => ?_) b hb
    split at hb
    · rename_i hbi
      rw [Nat.testBit_or, Bool.or_eq_true, Nat.one_shiftLeft, Nat.testBit_two_pow] at hb
      rcases hb with hb | hb
      · exact hm b hb
      · have : e.on = b := by simpa using hb
        rw [← this]
        exact h e (by simp) hbi
    · exact hm b hb
theorem closeD_ok {listed : Array Bool} (inv : HeadInv md ops ops.size listed) : ∀ (n m : Nat), (∀ b, m.testBit b = true → listed.getD b false = true) → ∀ b, (closeD md ops n m).testBit b = true → listed.getD b false = true
  | 0, m, h, b, hb => h b hb
  | n + 1, m, h, b, hb => by
    rw [closeD] at hb
    refine closeD_ok inv n _ (fun b hb => ?_) b hb
    split at hb
    · rename_i o ho
      split at hb
      · rename_i hbit
        exact depM_ok (L := fun b => listed.getD b false = true) (fun e he hbi => inv.closed n o ho (h n hbit) e he hbi) h b hb
      · exact h b hb
    · exact h b hb
theorem needs_listed {listed : Array Bool} (inv : HeadInv md ops ops.size listed) {k k' : Nat} (h : needsB md ops k k' = true) (hk : ∀ o, ops[k]? = some o → ∀ e ∈ o.after, Region.binds md e = true → listed.getD e.on false = true) : listed.getD k' false = true := by
  unfold needsB at h
  split at h
  · rename_i o ho
    exact closeD_ok inv _ _ (fun b hb => depM_ok (L := fun b => listed.getD b false = true) (m := 0) (fun e he hbi => hk o ho e he hbi) (fun b hb => by simp at hb) b hb) _ h
  · cases h

theorem ld {es : List Nat} {i : Nat} (h : i < es.length) : es.getD i 0 = es[i] := by simp [List.getD, h]
theorem getD_tf {listed : Array Bool} {i : Nat} (hi : i < listed.size) (h : listed.getD i true = true) : listed.getD i false = true := by
  simp [hi] at h ⊢; exact h
def chainsB (md : Region.Mode) (ops : Array Oper) (es : List Nat) (his : Nat → Nat) : Bool :=
  (List.range es.length).all (fun i => (List.range i).all fun j => needsB md ops (es.getD i 0) (es.getD j 0) && decide (es.getD j 0 < es.getD i 0)) && es.all (fun e => decide (e < ops.size)) &&
    (List.range ops.size).all (fun k => es.contains k || decide (es.length ≤ his k) || needsB md ops (es.getD (his k) 0) k)

structure Stg (es : List Nat) (listed : Array Bool) (st : Nat) : Prop where
  le : st ≤ es.length
  iff : ∀ i, i < es.length → (listed.getD (es.getD i 0) true = true ↔ i < st)

theorem getD_false_of {listed : Array Bool} {i : Nat} (h : listed.getD i false = true) : listed.getD i true = true := by
  rcases Nat.lt_or_ge i listed.size with h' | h'
  · simp [h'] at h ⊢; exact h
  · simp [Array.getElem?_eq_none h'] at h

def effUpon (w1 : World) (v : Value) : Result Next → Prop
  | .ok (.value u) w => w = w1 ∧ u = v
  | .ok .skip w => w = w1 ∧ v = undef
  | _ => False

/-- What operation 'k' leaves: an effect from its stage to the next one; anything else the same at all stages at which it can come up. -/
def YieldsT (P : Program) (ops : Array Oper) (es : List Nat) (his : Nat → Nat) (Ws : Nat → World) (k : Nat) (o : Oper) (v : Value) (a : Act) : Prop :=
  if k ∈ es then Region.wanted o (yielded ops a.tmps) = true ∧ ∀ i, i < es.length → es.getD i 0 = k → effUpon (Ws (i + 1)) v ((execOp a.eval o).run P (Ws i))
  else (Region.wanted o (yielded ops a.tmps) = true ∧ ∀ s, s ≤ his k → o.quietAt P a (fun w' => w' = Ws s) (Ws s) v) ∨ (Region.wanted o (yielded ops a.tmps) = false ∧ v = undef)

variable {es : List Nat} {his : Nat → Nat} {Ws : Nat → World}
def wpStg (P : Program) (ops : Array Oper) (es : List Nat) (his : Nat → Nat) (Ws : Nat → World) (Q : Act → Prop) : Nat → List Oper → Act → Prop
  | _, [], a => Q a
  | k, o :: rest, a => ∃ v, YieldsT P ops es his Ws k o v a ∧ wpStg P ops es his Ws Q (k + 1) rest (a.put o.dst v)
def tOp (P : Program) (ops : Array Oper) (es : List Nat) (his : Nat → Nat) (Ws : Nat → World) (k : Nat) (K : Act → Prop) (a : Act) : Prop :=
  match ops[k]? with
  | none => K a
  | some o => ∃ v, YieldsT P ops es his Ws k o v a ∧ K (a.put o.dst v)
theorem tOp_mono {i : Nat} {a : Act} {K K' : Act → Prop} (h : ∀ a, K a → K' a) (hh : tOp P ops es his Ws i K a) : tOp P ops es his Ws i K' a := by
  unfold tOp at *
  split at hh
  · exact h _ hh
  · obtain ⟨v, h1, h2⟩ := hh
    exact ⟨v, h1, h _ h2⟩
def allE (es : List Nat) (listed : Array Bool) : Prop := ∀ i, i < es.length → listed.getD (es.getD i 0) true = true
def wpAnyT (P : Program) (md : Region.Mode) (ops : Array Oper) (es : List Nat) (his : Nat → Nat) (Ws : Nat → World) (Q : Act → Prop) : Nat → Array Bool → Act → Prop
  | 0, listed, a => Region.ready md ops listed = [] ∧ allE es listed ∧ Q a
  | fuel + 1, listed, a =>
    (Region.ready md ops listed = [] → allE es listed ∧ Q a) ∧
    ∀ i ∈ Region.ready md ops listed, tOp P ops es his Ws i (wpAnyT P md ops es his Ws Q fuel (listed.setIfInBounds i true)) a

theorem ready_lt {listed : Array Bool} {i : Nat} (hi : i ∈ Region.ready md ops listed) : i < ops.size := by
  obtain ⟨_, o, ho, _⟩ := mem_ready.1 hi
  exact (Array.getElem?_eq_some_iff.1 ho).1

theorem wpOp_of_tOp (hB : chainsB md ops es his = true) {k st : Nat} {listed : Array Bool} {a : Act} {K : Act → Prop} {K' : Act → World → Prop} {Q' : Exit → Act → World → Prop} (inv : HeadInv md ops ops.size listed) (hs : Stg es listed st) (hr : k ∈ Region.ready md ops listed)
    (h : ∀ a st', Stg es (listed.setIfInBounds k true) st' → K a → K' a (Ws st')) (hh : tOp P ops es his Ws k K a) : wpOp P ops Q' k K' a (Ws st) := by
  obtain ⟨hun, o, ho, hdep⟩ := mem_ready.1 hr
  simp only [chainsB, Bool.and_eq_true, List.all_eq_true, List.mem_range, Bool.or_eq_true, decide_eq_true_eq] at hB
  obtain ⟨⟨hch, hlt⟩, hhi⟩ := hB
  unfold tOp at hh
  unfold wpOp
  simp only [ho] at hh ⊢
  obtain ⟨v, hy, hK⟩ := hh
  unfold YieldsT at hy
  have hdep' : ∀ o', ops[k]? = some o' → ∀ e ∈ o'.after, Region.binds md e = true → listed.getD e.on false = true := fun o' ho' => by
    have : o' = o := Option.some.inj (ho'.symm.trans ho)
    subst this
    exact hdep
  by_cases hke : k ∈ es
  · rw [if_pos hke] at hy
    obtain ⟨hw, hrun⟩ := hy
    simp only [hw, if_true]
    obtain ⟨i, hil, hie⟩ := List.getElem_of_mem hke
    have hig : es.getD i 0 = k := by rw [ld hil]; exact hie
    have hnot : ¬ i < st := fun hlt' => by
      have := (hs.iff i hil).2 hlt'
      rw [hig, hun] at this
      cases this
    have hst : st = i := by
      rcases Nat.lt_or_ge st i with hlt' | hge
      · have hc := (hch i hil st hlt').1
        rw [hig] at hc
        have := getD_false_of (needs_listed inv hc hdep')
        exact absurd ((hs.iff st (by omega)).1 this) (by omega)
      · omega
    subst hst
    have h3 := hrun st hil hig
    have hs' : Stg es (listed.setIfInBounds k true) (st + 1) := by
      refine ⟨hil, fun j hj => ?_⟩
      by_cases hjs : j = st
      · subst hjs
        rw [hig, getD_set_same]
        simp
      · have hne : k ≠ es.getD j 0 := fun e => by
          rw [← hig] at e
          rcases Nat.lt_or_ge j st with h1 | h1
          · have := (hch st hil j h1).2; omega
          · have := (hch j hj st (by omega)).2; omega
        rw [getD_set_ne true hne, hs.iff j hj]
        omega
    refine .inl ?_
    unfold Oper.wp
    generalize (execOp a.eval o).run P (Ws st) = r at *
    cases r with
    | ok n w' =>
      cases n <;> simp only [effUpon] at h3 <;> simp only [Oper.upon]
      case value u =>
        obtain ⟨e1, e2⟩ := h3
        rw [e1, e2]
        exact h _ _ hs' hK
      case skip =>
        obtain ⟨e1, e2⟩ := h3
        rw [e1, ← e2]
        exact h _ _ hs' hK
    | halt x w' => simp only [effUpon] at h3
  · rw [if_neg hke] at hy
    have hle : st ≤ his k := by
      rcases hhi k (ready_lt hr) with (h1 | h1) | h1
      · exact absurd (by simpa using h1) hke
      · have := hs.le; omega
      · rcases Nat.lt_or_ge (his k) st with h2 | h2
        · have hl := hs.le
          have hon := (hs.iff (his k) (by omega)).2 h2
          have hb : listed.getD (es.getD (his k) 0) false = true := by
            have hsz : es.getD (his k) 0 < listed.size := by
              rw [inv.size]
              have := hlt (es.getD (his k) 0) (by rw [ld (by omega)]; exact List.getElem_mem _)
              exact this
            exact getD_tf hsz hon
          have hoE : ∃ oE, ops[es.getD (his k) 0]? = some oE := by
            have := hlt (es.getD (his k) 0) (by rw [ld (by omega)]; exact List.getElem_mem _)
            exact ⟨_, Array.getElem?_eq_getElem this⟩
          have hk := getD_false_of (needs_listed inv h1 (fun o' ho' => inv.closed _ o' ho' hb))
          rw [hun] at hk
          cases hk
        · exact h2
    have hs' : Stg es (listed.setIfInBounds k true) st := by
      refine ⟨hs.le, fun j hj => ?_⟩
      have hne : k ≠ es.getD j 0 := fun e => hke (by rw [e, ld hj]; exact List.getElem_mem _)
      rw [getD_set_ne true hne, hs.iff j hj]
    rcases hy with ⟨hw, hq⟩ | ⟨hw, rfl⟩
    · simp only [hw, if_true]
      refine .inl ?_
      refine Oper.wp_of_quiet (C := fun w' => w' = Ws st) rfl (fun a w' hw' hk => by rw [hw']; exact h a st hs' hk) (o := o) (K := K) ⟨v, fun w2 hw2 => ?_, hK⟩
      rw [hw2]
      exact hq st hle
    · simp only [hw, Bool.false_eq_true, if_false]
      exact h _ _ hs' hK

theorem wpAny_of_stg (hB : chainsB md ops es his = true) {Q : Act → Prop} {Q' : Exit → Act → World → Prop} (hQ : ∀ a, Q a → Q' .normal a (Ws es.length)) : ∀ (fuel : Nat) (listed : Array Bool) (a : Act) (st : Nat), HeadInv md ops ops.size listed → Stg es listed st →
    wpAnyT P md ops es his Ws Q fuel listed a → wpAny P md ops Q' fuel listed a (Ws st)
  | 0, listed, a, st, inv, hs, h => ⟨h.1, by
    have : st = es.length := by
      have := hs.le
      rcases Nat.lt_or_ge st es.length with h1 | h1
      · exact absurd ((hs.iff st h1).1 (h.2.1 st h1)) (by omega)
      · omega
    rw [this]; exact hQ _ h.2.2⟩
  | fuel + 1, listed, a, st, inv, hs, h => ⟨fun h0 => by
    have : st = es.length := by
      have := hs.le
      rcases Nat.lt_or_ge st es.length with h1 | h1
      · exact absurd ((hs.iff st h1).1 ((h.1 h0).1 st h1)) (by omega)
      · omega
    rw [this]; exact hQ _ (h.1 h0).2, fun i hi => wpOp_of_tOp (md := md) hB inv hs hi (fun a' st' hs' hk => wpAny_of_stg hB hQ fuel _ a' st' (inv.set hi (ready_lt hi)) hs' hk) (h.2 i hi)⟩

theorem YieldsT.of_same {i : Nat} {o : Oper} {v : Value} {a a' : Act} (hy : YieldsT P ops es his Ws i o v a) (he : execOp a'.eval o = execOp a.eval o)
    (hw : Region.wanted o (yielded ops a'.tmps) = Region.wanted o (yielded ops a.tmps)) : YieldsT P ops es his Ws i o v a' := by
  unfold YieldsT Oper.quietAt at *
  rw [he, hw]
  exact hy
theorem tOp_put {i j : Nat} {oi oj : Oper} {v : Value} (hj : ops[j]? = some oj) (hap : oi.apart ops oj = true)
    (hsi : ∀ cs b, oi.op ≠ .select cs b) (hsj : ∀ cs b, oj.op ≠ .select cs b) {K : Act → Prop} {a : Act}
    (hy : YieldsT P ops es his Ws i oi v a) (h : tOp P ops es his Ws j K (a.put oi.dst v)) :
    tOp P ops es his Ws j (fun a' => YieldsT P ops es his Ws i oi v a' ∧ K (a'.put oi.dst v)) a := by
  obtain ⟨h1, h2, h3⟩ := Oper.apart_spec hap
  unfold tOp at *
  simp only [hj] at *
  obtain ⟨u, hu, hn⟩ := h
  exact ⟨u, hu.of_same (execOp_put oj hsj a oi.dst v h1).symm (wanted_put oj a oi.dst v h1).symm, hy.of_same (execOp_put oi hsi a oj.dst u h3) (wanted_put oi a oj.dst u h3), by rw [← Act.put_comm a v u h2]; exact hn⟩
theorem YieldsT.tOp {i : Nat} {o : Oper} {v : Value} {a : Act} (hi : ops[i]? = some o) (hy : YieldsT P ops es his Ws i o v a) {K : Act → Prop} (h : K (a.put o.dst v)) : tOp P ops es his Ws i K a := by
  unfold Go.Proofs.Ytefmlbckbhlgdaa.tOp
  simp only [hi]
  exact ⟨v, hy, h⟩

theorem wpAnyT_first {Q : Act → Prop} {i : Nat} {oi : Oper} {v : Value} (hi : ops[i]? = some oi) (hsel : ∀ (j : Nat) (o : Oper) cs b, ops[j]? = some o → o.op ≠ .select cs b) :
    ∀ (fuel : Nat) (listed : Array Bool) (a : Act),
      (∀ j oj, ops[j]? = some oj → j ≠ i → listed.getD j true = false → (∀ e ∈ oj.after, Region.binds md e = true → e.on ≠ i) → oi.apart ops oj = true) →
      i ∈ Region.ready md ops listed → YieldsT P ops es his Ws i oi v a →
      wpAnyT P md ops es his Ws Q fuel (listed.setIfInBounds i true) (a.put oi.dst v) → wpAnyT P md ops es his Ws Q (fuel + 1) listed a := by
  intro fuel
  induction fuel with
  | zero =>
    intro listed a _ hr hy H
    refine ⟨fun h => (by rw [h] at hr; cases hr), fun j hj => ?_⟩
    by_cases hji : j = i
    · subst hji; exact hy.tOp hi H
    · have := ready_mono hj hji
      rw [H.1] at this
      cases this
  | succ fuel ih =>
    intro listed a hfree hr hy H
    refine ⟨fun h => (by rw [h] at hr; cases hr), fun j hj => ?_⟩
    by_cases hji : j = i
    · subst hji; exact hy.tOp hi H
    · have h1 := H.2 j (ready_mono hj hji)
      obtain ⟨hjun, oj, hoj, hall⟩ := mem_ready.1 hj
      have hnot : ∀ e ∈ oj.after, Region.binds md e = true → e.on ≠ i := fun e he hb heq => by
        have h1 := hall e he hb
        have h0 := (mem_ready.1 hr).1
        rw [heq] at h1
        rcases Nat.lt_or_ge i listed.size with h' | h'
        · simp [h'] at h0 h1; rw [h0] at h1; cases h1
        · simp [Array.getElem?_eq_none h'] at h1
      have h2 := tOp_put hoj (hfree j oj hoj hji hjun hnot) (fun cs b => hsel i oi cs b hi) (fun cs b => hsel j oj cs b hoj) hy h1
      have hfree' : ∀ k ok, ops[k]? = some ok → k ≠ i → (listed.setIfInBounds j true).getD k true = false →
          (∀ e ∈ ok.after, Region.binds md e = true → e.on ≠ i) → oi.apart ops ok = true := fun k ok hk hki hun hno => by
        refine hfree k ok hk hki ?_ hno
        by_cases hjk : j = k
        · subst hjk; exact hjun
        · rw [getD_set_ne true hjk] at hun; exact hun
      refine tOp_mono (fun a' h3 => ih (listed.setIfInBounds j true) a' hfree' (ready_mono hr (Ne.symm hji)) h3.1 ?_) h2
      rw [Array.setIfInBounds_comm _ _ hji]
      exact h3.2

theorem wpAnyT_lex {Q : Act → Prop} (hsel : Region.noSelect ops = true) (hes : ∀ i, i < es.length → es.getD i 0 < ops.size) : ∀ (l : List Oper) (k : Nat) (listed : Array Bool) (a : Act), (∀ j, l[j]? = ops[k + j]?) → (∀ j, j < k → listed.getD j true = true) →
    Region.lexFrom md ops l.length k listed = true → wpStg P ops es his Ws Q k l a → wpAnyT P md ops es his Ws Q l.length listed a
  | [], k, listed, _, hl, hd, hB, h => ⟨by simpa [Region.lexFrom] using hB, fun i hi => hd _ (by
      have hsz := hes i hi
      rcases Nat.lt_or_ge (es.getD i 0) k with h' | h'
      · exact h'
      · have := hl (es.getD i 0 - k)
        rw [show k + (es.getD i 0 - k) = es.getD i 0 by omega, Array.getElem?_eq_getElem hsz] at this
        simp at this), h⟩
  | o :: l, k, listed, a, hl, hd, hB, h => by
    have h0 : ops[k]? = some o := by simpa using (hl 0).symm
    simp only [List.length_cons, Region.lexFrom, Bool.and_eq_true] at hB
    obtain ⟨⟨hr, hf⟩, hB'⟩ := hB
    obtain ⟨v, hy, hK⟩ := h
    exact wpAnyT_first h0 (Region.noSelect_spec hsel) l.length listed a (Region.free_spec h0 hf) (by simpa using hr) hy
      (wpAnyT_lex hsel hes l (k + 1) _ _ (fun j => by have := hl (j + 1); simpa [Nat.add_assoc, Nat.add_comm 1 j] using this) (fun j hj => by
        by_cases e : k = j
        · subst e; exact getD_set_same _ _
        · rw [getD_set_ne true e]; exact hd j (by omega)) hB' hK)

/-- One walk, in the order of the text: the effects 'es' (places in the region), from world to world; what else there is only reads, the same at all stages up to 'his' of its place. -/
theorem region_stages {id : Nat} {Q : Exit → Act → World → Prop} {a : Act} {w : World} {l : List Oper} (es : List Nat) (his : Nat → Nat) (Ws : Nat → World) (hm : P.follows .mixedOrders = true) (hB : (Region.lexB .any l.toArray && chainsB .any l.toArray es his) = true) (h0 : Ws 0 = w.drew)
    (h : wpStg P l.toArray es his Ws (fun a' => Q .normal a' (Ws es.length)) 0 l a) : (Code.region id l.toArray true).wp P Q a w := by
  simp only [Region.lexB, Bool.and_eq_true] at hB
  obtain ⟨⟨hsel, hlex⟩, hch⟩ := hB
  have hes : ∀ i, i < es.length → es.getD i 0 < l.toArray.size := fun i hi => by
    simp only [chainsB, Bool.and_eq_true, List.all_eq_true, decide_eq_true_eq] at hch
    exact hch.1.2 _ (by rw [ld hi]; exact List.getElem_mem _)
  have inv0 : HeadInv .any l.toArray l.toArray.size (Array.replicate l.toArray.size false) :=
    ⟨by simp, fun j oj _ hl => (by rw [getD_replicate_false] at hl; cases hl), fun t ht ht' => by omega⟩
  have hs0 : Stg es (Array.replicate l.toArray.size false) 0 := ⟨Nat.zero_le _, fun i hi => by
    rw [show (Array.replicate l.toArray.size false).getD (es.getD i 0) true = false from getD_in (by simpa using hes i hi) (getD_replicate_false _ _)]
    simp⟩
  refine wp_region_any hm ?_
  have := wpAny_of_stg (Q' := Q) hch (Q := fun a' => Q .normal a' (Ws es.length)) (fun a' h => h) l.toArray.size (Array.replicate l.toArray.size false) a 0 inv0 hs0 (by
    have := wpAnyT_lex (md := .any) (P := P) (es := es) (his := his) (Ws := Ws) (Q := fun a' => Q .normal a' (Ws es.length)) hsel hes l 0 (Array.replicate l.toArray.size false) a (fun j => by simp) (fun j hj => absurd hj (Nat.not_lt_zero _)) (by simpa using hlex) h
    simpa using this)
  rw [h0] at this
  exact this

/-! ### The steps -/
theorem stg_nil {Q : Act → Prop} {k : Nat} {a : Act} (h : Q a) : wpStg P ops es his Ws Q k [] a := h
theorem stg_step {Q : Act → Prop} {k : Nat} {a : Act} {o : Oper} {rest : List Oper} (n : Nat) (hk : (!es.contains k && his k == n) = true)
    (h : ∀ K : Act → Prop, (∀ a, wpStg P ops es his Ws Q (k + 1) rest a → K a) → if Region.wanted o (yielded ops a.tmps) then (∃ v, (∀ s : { s : Nat // s ≤ n }, o.quietAt P a (fun w' => w' = Ws s.1) (Ws s.1) v) ∧ K (a.put o.dst v)) else K (a.put o.dst undef)) : wpStg P ops es his Ws Q k (o :: rest) a := by
  have := h _ (fun _ h => h)
  simp only [Bool.and_eq_true, beq_iff_eq, Bool.not_eq_true'] at hk
  obtain ⟨hk, rfl⟩ := hk
  have hk' : ¬ k ∈ es := by simpa using hk
  unfold wpStg YieldsT
  simp only [if_neg hk']
  split at this
  · rename_i hw
    obtain ⟨v, h1, h2⟩ := this
    exact ⟨v, .inl ⟨hw, fun s hs => h1 ⟨s, hs⟩⟩, h2⟩
  · rename_i hw
    exact ⟨_, .inr ⟨by simpa using hw, rfl⟩, this⟩
theorem stg_eff {Q : Act → Prop} {k : Nat} {a : Act} {o : Oper} {rest : List Oper} (i : Nat) (v : Value) (hk : ((List.range es.length).all fun j => (es.getD j 0 == k) == (j == i)) = true) (hi : i < es.length) (hg : o.guard = none)
    (h : effUpon (Ws (i + 1)) v ((execOp a.eval o).run P (Ws i))) (h' : wpStg P ops es his Ws Q (k + 1) rest (a.put o.dst v)) : wpStg P ops es his Ws Q k (o :: rest) a := by
  simp only [List.all_eq_true, List.mem_range, beq_iff_eq] at hk
  have hki : es.getD i 0 = k := by
    have := hk i hi
    simpa using this
  have hk' : k ∈ es := by rw [← hki, ld hi]; exact List.getElem_mem _
  unfold wpStg YieldsT
  simp only [if_pos hk']
  refine ⟨v, ⟨by unfold Region.wanted; rw [hg], fun j hj hjk => ?_⟩, h'⟩
  have := hk j hj
  rw [hjk] at this
  have : j = i := by simpa using this
  subst this
  exact h
instance stNonempty (n : Nat) : Nonempty { s : Nat // s ≤ n } := ⟨⟨0, Nat.zero_le _⟩⟩

end
end Go.Proofs.Ytefmlbckbhlgdaa

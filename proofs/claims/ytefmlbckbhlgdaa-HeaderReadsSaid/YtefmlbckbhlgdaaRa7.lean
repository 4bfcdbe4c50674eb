/- Frame: items as trees; sizes; one list's items (given one item's contract). Frame: the items of a list of fields (given one item's contract). -/
import Derived.Deep.Slices
import Derived.Test.YtefmlbckbhlgdaaRa6
namespace Go.Proofs.Ytefmlbckbhlgdaa
open Go.RowKit
def encIt : TE (Bool × List UInt8) := ⟨2, fun a => [.bool a.1, .string (mkS a.2)], fun _ => rfl, fun a u h => by simp at h; rcases h with rfl | rfl <;> rfl⟩
theorem info_it : (Try.prog.info? 98).map (fun i => (i.zero, i.size, i.bytes)) = some (some (.agg #[.bool false, .string ⟨#[]⟩, .slice none 0 0]), 3, 48) := by kernel_rfl
mutual
def itT : It → Tr (Bool × List UInt8)
  | .mk l b ks => .mk (l, b) (itTs ks)
def itTs : List It → List (Tr (Bool × List UInt8))
  | [] => []
  | k :: ks => itT k :: itTs ks
end
theorem itTs_map : ∀ l : List It, itTs l = l.map itT
  | [] => rfl
  | x :: l => by rw [itTs, itTs_map l]; rfl

/-- How the reading of a field as an item ends. -/
def ItemPost (r : Option It) (w : World) (e : Ending) (w' : World) : Prop :=
  ∃ l b p n c is, e = .returned (.tuple #[.agg #[.bool l, .string (mkS b), .slice p n c], .bool is]) ∧ Below w.heap.size w w' ∧
    ((r = none ∧ is = false) ∨ ∃ ks, r = some (.mk l b ks) ∧ is = true ∧ RowT encIt (fun b => w.heap.size ≤ b) w' (.slice p n c) (itTs ks))

def KindAt (w : World) (k : Kd) (s : Sl) : Prop := RowT encK (fun _ => True) w (slV s) k.kids
def FieldAt (w : World) (f : Fd) (s : Sl) : Prop := RowT encFd (fun _ => True) w (slV s) f.kids
def ItemC (k : Kd) : Prop := ∀ (s : Sl) (f : Fd) (s' : Sl) (w : World), fOk f → KindAt w k s → FieldAt w f s' → Calls Try.prog 146 #[kV k.val s, fV f.val s'] w (ItemPost (itemK k f) w)
def ItemsC (k : Kd) : Prop := ∀ (s : Sl) (fs : List Fd) (s' : Sl) (w : World), fsOk fs → KindAt w k s → RowT encFd (fun _ => True) w (slV s') fs → Calls Try.prog 100 #[kV k.val s, slV s'] w (ItemPost (itemsT k fs) w)

/-- Three cells of a box of the call's own, laid anew. -/
theorem box3 {w0 w : World} {B k : Nat} {u0 u1 u2 : Value} {T : TypeId} (R : RowAt w k #[u0, u1, u2] T) (hb : Below B w0 w) (hk : B ≤ k) (v0 v1 v2 : Value) :
    RowAt (((w.setCell ⟨k, 0, none⟩ v0).setCell ⟨k, 1, none⟩ v1).setCell ⟨k, 2, none⟩ v2) k #[v0, v1, v2] T ∧ Below B w0 (((w.setCell ⟨k, 0, none⟩ v0).setCell ⟨k, 1, none⟩ v1).setCell ⟨k, 2, none⟩ v2) :=
  ⟨((R.set 0 v0 rfl).set 1 v1 rfl).set 2 v2 rfl, ((hb.setCell (p := ⟨k, 0, none⟩) hk _).setCell (p := ⟨k, 1, none⟩) hk _).setCell (p := ⟨k, 2, none⟩) hk _⟩

set_option maxRecDepth 100000 in
set_option maxHeartbeats 2000000 in
theorem sizes_any (c : UInt8) (w : World) : Calls Try.prog 170 #[.int .u8 c.toNat] w fun e w' => e = .returned (.int .i64 (sizeK c)) ∧ w = w' := by
  by_cases h1 : c = 104
  · subst h1
    go_enter Try.func170, Try.ntmps170
    go_wp2
    go_ret
    exact ⟨rfl, rfl⟩
  · have q1 : ((c.toNat : Int) == 104) = false := c8_ne (n := 104) (by omega) h1
    by_cases h2 : c = 97
    · subst h2
      go_enter Try.func170, Try.ntmps170
      go_wp2
      go_ret
      exact ⟨rfl, rfl⟩
    · have q2 : ((c.toNat : Int) == 97) = false := c8_ne (n := 97) (by omega) h2
      by_cases h3 : c = 115
      · subst h3
        go_enter Try.func170, Try.ntmps170
        go_wp2
        go_ret
        exact ⟨rfl, rfl⟩
      · have q3 : ((c.toNat : Int) == 115) = false := c8_ne (n := 115) (by omega) h3
        have hv : Hid (sizeK c = -1) := Lib.hid (by unfold sizeK; rw [if_neg h1, if_neg h2, if_neg h3])
        clear h1 h2 h3
        go_enter Try.func170, Try.ntmps170
        go_wp2
        go_ret
        exact ⟨by rw [hv.out]; rfl, rfl⟩

/-- What the first 'i' fields are as items. -/
def partI (k : Kd) (fs : List Fd) (i : Nat) : Option (List It) :=
  if k.val = 42 then (match k.kids with
    | [] => none
    | kid :: _ => (fs.take i).mapM (itemK kid)) else rowI (k.kids.take i) (fs.take i)
theorem rowI_snoc : ∀ (ks : List Kd) (fs : List Fd) (k : Kd) (f : Fd), ks.length = fs.length → rowI (ks ++ [k]) (fs ++ [f]) = (rowI ks fs).bind fun xs => (itemK k f).map fun x => xs ++ [x]
  | [], [], k, f, _ => by
    simp only [List.nil_append, rowI, Option.bind_some]
    cases itemK k f <;> rfl
  | k' :: ks, f' :: fs, k, f, h => by
    rw [List.cons_append, List.cons_append, rowI, rowI, rowI_snoc ks fs k f (by simpa using h)]
    cases itemK k' f' with
    | none => rfl
    | some x =>
      simp only [Option.bind_some]
      cases rowI ks fs with
      | none => rfl
      | some xs =>
        simp only [Option.bind_some, Option.map_some]
        cases itemK k f <;> rfl
  | [], _ :: _, _, _, h => by simp at h
  | _ :: _, [], _, _, h => by simp at h
theorem mapM_snoc {α β : Type} (g : α → Option β) : ∀ (l : List α) (a : α), (l ++ [a]).mapM g = (l.mapM g).bind fun xs => (g a).map fun x => xs ++ [x]
  | [], a => by
    simp only [List.nil_append, List.mapM_cons, List.mapM_nil]
    cases g a <;> rfl
  | b :: l, a => by
    rw [List.cons_append, List.mapM_cons, List.mapM_cons, mapM_snoc g l a]
    cases g b with
    | none => rfl
    | some y =>
      simp only [Option.bind_eq_bind, Option.bind_some]
      cases l.mapM g with
      | none => rfl
      | some xs =>
        simp only [Option.bind_some]
        cases g a <;> rfl
/-- The kind of the field at a place. -/
def kindAt (k : Kd) (i : Nat) : Option Kd := if k.val = 42 then k.kids[0]? else k.kids[i]?
theorem partI_step {k kd : Kd} {fs : List Fd} {i : Nat} {f : Fd} (hk : kindAt k i = some kd) (hf : fs[i]? = some f) : partI k fs (i + 1) = (partI k fs i).bind fun xs => (itemK kd f).map fun x => xs ++ [x] := by
  have e1 : fs.take (i + 1) = fs.take i ++ [f] := by rw [List.take_add_one, hf]; rfl
  unfold kindAt at hk
  unfold partI
  by_cases h : k.val = 42
  · rw [if_pos h] at hk
    rw [if_pos h, if_pos h]
    cases hks : k.kids with
    | nil => rw [hks] at hk; cases hk
    | cons kid r =>
      rw [hks] at hk
      simp at hk
      subst hk
      simp only
      rw [e1, mapM_snoc]
  · rw [if_neg h] at hk
    rw [if_neg h, if_neg h]
    have e2 : k.kids.take (i + 1) = k.kids.take i ++ [kd] := by rw [List.take_add_one, hk]; rfl
    have h1 := (List.getElem?_eq_some_iff.1 hk).1
    have h2 := (List.getElem?_eq_some_iff.1 hf).1
    rw [e1, e2, rowI_snoc _ _ _ _ (by rw [List.length_take, List.length_take]; omega)]
theorem partI_none {k : Kd} {fs : List Fd} {i : Nat} (hk : ∀ j, i ≤ j → j < fs.length → ∃ kd, kindAt k j = some kd) (h : partI k fs i = none) : ∀ n, i + n ≤ fs.length → partI k fs (i + n) = none
  | 0, _ => h
  | n + 1, hn => by
    obtain ⟨kd, e⟩ := hk (i + n) (by omega) (by omega)
    have := partI_step (fs := fs) e (List.getElem?_eq_getElem (show i + n < fs.length by omega))
    rw [← Nat.add_assoc, this, partI_none hk h n (by omega)]
    rfl
/-- May a row have so many fields? -/
def fitN (k : Kd) (n : Nat) : Bool := if k.val = 42 then decide (n ≤ 40) else decide (n = k.kids.length)
theorem itemsT_part {k : Kd} {fs : List Fd} (hk : kOk k) : itemsT k fs = if fitN k fs.length = true then (partI k fs fs.length).map (.mk true []) else none := by
  obtain ⟨c, ks⟩ := k
  rw [itemsT]
  unfold fitN partI
  try simp only
  by_cases h : c = 42
  · rw [if_pos h, if_pos h, if_pos h]
    rw [kOk] at hk
    by_cases hn : fs.length ≤ 40
    · rw [if_pos hn, if_pos (by simpa using hn), List.take_length]
      cases ks with
      | nil =>
        rcases hk.1 with h' | h' | h'
        · simp at h'
        · rw [h] at h'; exact absurd h' (by decide)
        · rw [h] at h'; exact absurd h'.1 (by decide)
      | cons kid r => rw [starI]
    · rw [if_neg hn, if_neg (by simpa using hn)]
  · rw [if_neg h, if_neg h, if_neg h]
    by_cases hn : fs.length = ks.length
    · rw [if_pos (by simpa using hn), List.take_length, hn, List.take_length]
    · rw [if_neg (by simpa using hn)]
      have : ∀ (a : List Kd) (b : List Fd), b.length ≠ a.length → rowI a b = none := by
        intro a
        induction a with
        | nil => intro b hb; cases b with
          | nil => simp at hb
          | cons f b => rw [rowI]
        | cons k a ih => intro b hb; cases b with
          | nil => rw [rowI]
          | cons f b =>
            rw [rowI, ih b (by simpa using hb)]
            cases itemK k f <;> rfl
      rw [this ks fs hn]
      rfl

theorem OwnT.setLow {α : Type} {E : TE α} {A : Nat → Prop} {w : World} {T : TypeId} {base : Nat} {v : Value} {ts : List (Tr α)} (h : OwnT E T A w base v ts) (a : Addr) (u : Value) (ha : a.block < base) (hA : ∀ b, A b → b ≠ a.block) : OwnT E T A (w.setCell a u) base v ts := by
  obtain ⟨xs, hl, ho, ht⟩ := h
  refine ⟨xs, hl, ⟨ho.1, ?_⟩, fun i t x h1 h2 => (ht i t x h1 h2).keep (fun b v hb hc => ?_) (fun _ _ h _ => h) (fun _ h => h)⟩
  · rcases ho.2 with h' | ⟨g, cap, cur, hv, hg, hc, r⟩
    · exact .inl h'
    · exact .inr ⟨g, cap, cur, hv, hg, by rw [heap_setCell_other _ _ _ _ (by omega)]; exact hc, r⟩
  · rw [World.cell?_setCell_other]
    · exact hc
    · intro e
      exact hA _ hb.1 (by rw [← e])
theorem RowT.at2 {α : Type} {E : TE α} {A : Nat → Prop} {w : World} {p : Option Addr} {n c : Nat} {ts : List (Tr α)} (h : RowT E A w (.slice p n c) ts) {i : Nat} {t : Tr α} (ht : ts[i]? = some t) : ∃ ad s, p = some ad ∧ (∀ r u, (E.enc.cells (t.val, s))[r]? = some u → w.cell? ((ad.add (i * (E.n + 1))).add r) = some u) ∧ RowT E A w (slV s) t.kids := by
  obtain ⟨ad, x, rfl, hc, hp⟩ := RowT.at h ht
  have e := hp.parts.1
  obtain ⟨a, s⟩ := x
  simp only at e
  subst e
  exact ⟨ad, s, rfl, fun r u hr => by rw [Go.Deep.add_add]; exact hc r u hr, hp.row⟩
end Go.Proofs.Ytefmlbckbhlgdaa
namespace Go.Proofs.Ytefmlbckbhlgdaa
open Go.RowKit
theorem RowT.sane {α : Type} {E : TE α} {A : Nat → Prop} {w : World} {p : Option Addr} {n c : Nat} {ts : List (Tr α)} (h : RowT E A w (.slice p n c) ts) : n = ts.length ∧ n ≤ c ∧ c ≤ maxLen := by
  obtain ⟨xs, hl, hr, _, _⟩ := h
  obtain ⟨h1, h2, h3, _⟩ := RowE.sane hr
  exact ⟨by omega, h2, h3⟩
theorem ItemPost.no {w w' : World} {l : Bool} {b : List UInt8} {p : Option Addr} {n c : Nat} (hb : Below w.heap.size w w') : ItemPost none w (.returned (.tuple #[.agg #[.bool l, .string (mkS b), .slice p n c], .bool false])) w' := ⟨l, b, p, n, c, false, rfl, hb, .inl ⟨rfl, rfl⟩⟩

set_option maxRecDepth 100000 in
set_option maxHeartbeats 4000000 in
theorem items_of (c : UInt8) (ks : List Kd) (hk : kOk (.mk c ks)) (hn : ks.length ≤ 1000) (H : ∀ kd ∈ ks, ItemC kd) : ItemsC (.mk c ks) := by
  intro s fs s' w hok hK hF
  have HOK := Lib.hid hok
  clear hok
  obtain ⟨pk, nk, ck⟩ := s
  obtain ⟨pf, nf, cf⟩ := s'
  obtain ⟨hnk, k1, k2⟩ := RowT.sane hK
  obtain ⟨hnf, f1, f2⟩ := RowT.sane hF
  replace hnk : nk = ks.length := hnk
  subst hnk hnf
  rw [itemsT_part hk]
  have HP0 : Hid (partI (.mk c ks) fs 0 = some []) := Lib.hid (by
    unfold partI
    by_cases h : c = 42
    · rw [if_pos h]
      have hk' := hk
      rw [kOk] at hk'
      cases ks with
      | nil =>
        rcases hk'.1 with h' | h' | h'
        · simp at h'
        · rw [h] at h'; exact absurd h' (by decide)
        · rw [h] at h'; exact absurd h'.1 (by decide)
      | cons kid r => rfl
    · rw [if_neg h]
      simp [rowI])
  have hres : ∀ r, r = (if fitN (.mk c ks) fs.length = true then (partI (.mk c ks) fs fs.length).map (It.mk true []) else none) → Hid (r = (if fitN (.mk c ks) fs.length = true then (partI (.mk c ks) fs fs.length).map (It.mk true []) else none)) := fun r h => Lib.hid h
  generalize hr : (if fitN (.mk c ks) fs.length = true then (partI (.mk c ks) fs fs.length).map (It.mk true []) else none) = res
  have HRES := hres res hr.symm
  clear hres hr
  have HK0 := Lib.hid hK
  have HF0 := Lib.hid hF
  simp only [Tr.val, slV, kV] at *
  have R2 := Lib.hid ((RowAt.new w #[.int .u8 c.toNat, .slice pk ks.length ck] 111).alloc (.cells #[.bool false, .string ⟨#[]⟩, .slice none 0 0] 98))
  have R4 := Lib.hid (RowAt.new' (w.alloc (.cells #[.int .u8 c.toNat, .slice pk ks.length ck] 111)) #[.bool false, .string ⟨#[]⟩, .slice none 0 0] 98 (k := w.heap.size + 1) (by simp))
  have HWS : Hid (((w.alloc (.cells #[.int .u8 c.toNat, .slice pk ks.length ck] 111)).alloc (.cells #[.bool false, .string ⟨#[]⟩, .slice none 0 0] 98)).heap.size = w.heap.size + 2) := Lib.hid (by simp)
  have HB := Lib.hid (bel2 w (.cells #[.int .u8 c.toNat, .slice pk ks.length ck] 111) (.cells #[.bool false, .string ⟨#[]⟩, .slice none 0 0] 98))
  clear hK hF
  unfold maxLen at k2 f2
  go_enter Try.func100, Try.ntmps100
  go_upto_region 1 with (fail)
  generalize (w.alloc (.cells #[.int .u8 c.toNat, .slice pk ks.length ck] 111)).alloc (.cells #[.bool false, .string ⟨#[]⟩, .slice none 0 0] 98) = W at *
  obtain ⟨x0, x1, xf0, xf1⟩ := R2.out.c2
  obtain ⟨z0, z1, z2, zf0, zf1, zf2⟩ := R4.out.c3
  by_cases h42 : c = 42
  · have q1 : ((c.toNat : Int) == 42) = true := by rw [h42]; rfl
    have q2 : ((c.toNat : Int) != 42) = false := by rw [bne, q1]; rfl
    by_cases hfit : fs.length ≤ 40
    rotate_left
    have q3 : (fs.length : Int) > 40 := by omega
    have hno : Hid (res = none) := Lib.hid (by have := HRES.out; rw [this, if_neg (by unfold fitN; first | (rw [if_pos h42]; simpa using hfit) | (rw [if_neg h42]; simpa using hfit))])
    clear HRES HP0 H hk h42 hfit
    go_wp2
    obtain ⟨r, b⟩ := box3 R4.out HB.out (Nat.le_succ _) (.bool false) (.string ⟨#[]⟩) (.slice none 0 0)
    obtain ⟨e0, e1, e2, _⟩ := r.c3
    refine bodyPost_ret (v := .tuple #[.agg #[.bool false, .string ⟨#[]⟩, .slice none 0 0], .bool false]) (by simp [results, Try.results100, go_sem, e0, e1, e2]) rfl ?_
    rw [hno.out]
    exact ItemPost.no (b := []) b
    have q3 : ¬ (fs.length : Int) > 40 := by omega
    have FIT : Hid (fitN (.mk c ks) fs.length = true) := Lib.hid (by unfold fitN; first | (rw [if_pos h42]; simpa using hfit) | (rw [if_neg h42]; simpa using hfit))
    have hfl : fs.length ≤ 1000 := by omega
    have HFIT := Lib.hid hfit
    clear hfit
    go_upto_region 4 with (fail)
    obtain ⟨e0, e1, e2, _⟩ := (RowAt.new W #[.bool true, .string ⟨#[]⟩, .slice none 0 0] 98).c3
    refine bodyPost_ret (v := .agg #[.bool true, .string ⟨#[]⟩, .slice none 0 0]) (by simp [results, Try.results87, go_sem, e0, e1, e2]) rfl ?_
    dsimp only
    (replace R2 := Lib.hid (R2.out.alloc (.cells #[.bool true, .string ⟨#[]⟩, .slice none 0 0] 98)); replace R4 := Lib.hid (R4.out.alloc (.cells #[.bool true, .string ⟨#[]⟩, .slice none 0 0] 98)); replace HB := Lib.hid (HB.out.alloc HB.out.size (.cells #[.bool true, .string ⟨#[]⟩, .slice none 0 0] 98)))
    have R6 := Lib.hid (RowAt.new' (W.alloc (.cells #[.bool true, .string ⟨#[]⟩, .slice none 0 0] 98)) #[.bool true, .string ⟨#[]⟩, .slice none 0 0] 98 (k := W.heap.size + 1) (by simp))
    have HZ : Hid (w.heap.size + 2 ≤ W.heap.size + 1) := Lib.hid (by have := R4.out; have := HWS.out; omega)
    (replace R2 := Lib.hid (R2.out.alloc (.cells #[.bool true, .string ⟨#[]⟩, .slice none 0 0] 98)); replace R4 := Lib.hid (R4.out.alloc (.cells #[.bool true, .string ⟨#[]⟩, .slice none 0 0] 98)); replace HB := Lib.hid (HB.out.alloc HB.out.size (.cells #[.bool true, .string ⟨#[]⟩, .slice none 0 0] 98)))
    clear x0 x1 xf0 xf1 z0 z1 z2 zf0 zf1 zf2 e0 e1 e2 HWS
    go_upto_region 4 with (fail)
    generalize (W.alloc (.cells #[.bool true, .string ⟨#[]⟩, .slice none 0 0] 98)).alloc (.cells #[.bool true, .string ⟨#[]⟩, .slice none 0 0] 98) = W3 at *
    generalize W.heap.size + 1 = k6 at *
    have O0 : Hid (OwnT encIt 98 (fun b => k6 < b) W3 (k6 + 1) (.slice none 0 0) (itTs [])) := Lib.hid (OwnT.nil _ _)
    clear q3
    go_wp2
    go_loopw [37] (fun s37 wr => ∃ (i : Nat) (xs : List It) (po : Option Addr) (no co : Nat), i ≤ fs.length ∧ xs.length = i ∧ s37 = .int .i64 i ∧ Hid (partI (.mk c ks) fs i = some xs) ∧ Hid (RowAt wr k6 #[.bool true, .string ⟨#[]⟩, .slice po no co] 98) ∧ Hid (OwnT encIt 98 (fun b => k6 < b) wr (k6 + 1) (.slice po no co) (itTs xs)) ∧ Hid (RowAt wr w.heap.size #[.int .u8 c.toNat, .slice pk ks.length ck] 111) ∧ Hid (RowAt wr (w.heap.size + 1) #[.bool false, .string ⟨#[]⟩, .slice none 0 0] 98) ∧ Hid (Below w.heap.size w wr)) (fun s _ => fs.length - (intOf s).toNat)
    case atStart => exact ⟨0, [], none, 0, 0, Nat.zero_le _, rfl, rfl, HP0, R6, O0, R2, R4, HB⟩
    case round =>
      clear HP0 R6 O0 R2 R4 HB
      obtain ⟨i, xs, po, no, co, hi, hxl, rfl, hp, h6, ho, h2, h4, hb⟩ := hrel
      have HP := Lib.hid hp.out
      have R6 := Lib.hid h6.out
      have O := Lib.hid ho.out
      have R2 := Lib.hid h2.out
      have R4 := Lib.hid h4.out
      have HB := Lib.hid hb.out
      clear hp h6 ho h2 h4 hb
      by_cases hlt : i < fs.length
      · obtain ⟨f, hf⟩ : ∃ f, fs[i]? = some f := ⟨_, List.getElem?_eq_getElem hlt⟩
        have HFO := Lib.hid (fsOk_mem HOK.out f (List.mem_of_getElem? hf))
        obtain ⟨adf, sf, rfl, hfc, hfk⟩ := RowT.at2 (HF0.out.below HB.out (Nat.le_refl _)) hf
        obtain ⟨kd, hkd⟩ : ∃ kd, ks[0]? = some kd := by
          have := hk
          rw [kOk] at this
          rcases this.1 with ⟨_, h⟩ | h | h
          · exact ⟨_, List.getElem?_eq_getElem (show 0 < ks.length by omega)⟩
          · rw [h42] at h; exact absurd h (by decide)
          · rw [h42] at h; exact absurd h.1 (by decide)
        have hka : ∀ j, kindAt (.mk c ks) j = some kd := fun j => by unfold kindAt; rw [if_pos h42]; exact hkd
        have hkall : ∀ j, i ≤ j → j < fs.length → ∃ kd, kindAt (.mk c ks) j = some kd := fun j _ _ => ⟨kd, hka j⟩
        have hstep := partI_step (hka i) hf
        obtain ⟨adk, sk, rfl, hkc, hkk⟩ := RowT.at2 (RowT.below (show RowT encK (fun _ => True) w (.slice pk ks.length ck) ks from HK0.out) HB.out (Nat.le_refl _)) hkd
        have HIC := H kd (List.mem_of_getElem? hkd)
        obtain ⟨p4, n4, c4⟩ := sk
        obtain ⟨p3, n3, c3⟩ := sf
        obtain ⟨⟨fn, fb⟩, fk⟩ := f
        have f0 := hfc 0 _ rfl
        have f1' := hfc 1 _ rfl
        have f2' := hfc 2 _ rfl
        have g0 := hkc 0 _ rfl
        have g1 := hkc 1 _ rfl
        replace f0 : wr.cell? (adf.add (i * 3)) = some (.int .u64 (fn : Int)) := f0
        replace f1' : wr.cell? ⟨(adf.add (i * 3)).block, (adf.add (i * 3)).off + 1, none⟩ = some (.string (mkS fb)) := f1'
        replace f2' : wr.cell? ⟨(adf.add (i * 3)).block, (adf.add (i * 3)).off + 2, none⟩ = some (.slice p3 n3 c3) := f2'
        replace g0 : wr.cell? adk = some (.int .u8 (kd.val.toNat : Int)) := g0
        replace g1 : wr.cell? ⟨adk.block, adk.off + 1, none⟩ = some (.slice p4 n4 c4) := g1
        obtain ⟨x0, x1, xf0, xf1⟩ := R2.out.c2
        have HST := Lib.hid hstep
        have HKALL := Lib.hid hkall
        have HFK := Lib.hid hfk
        have HKK := Lib.hid hkk
        clear hstep hkall hfk hkk hfc hkc hf
        have hks0 : 0 < ks.length := (List.getElem?_eq_some_iff.1 hkd).1
        go_upto_region 7 with (fail)
        have B1 := bel1 wr (.cells #[.int .u64 (fn : Int), .string (mkS fb), .slice p3 n3 c3] 64)
        have R8 := Lib.hid (RowAt.new wr #[.int .u64 (fn : Int), .string (mkS fb), .slice p3 n3 c3] 64)
        have mv : ∀ a u, wr.cell? a = some u → (wr.alloc (.cells #[.int .u64 (fn : Int), .string (mkS fb), .slice p3 n3 c3] 64)).cell? a = some u := fun a u h => by rw [B1.cell (block_lt_of_cell h)]; exact h
        have HB1 := Lib.hid B1
        have HK9 := Lib.hid R8.out.lt
        clear x0 x1 xf0 xf1 f0 f1' f2' B1
        replace g0 := mv _ _ g0
        replace g1 := mv _ _ g1
        clear mv
        obtain ⟨x0, x1, xf0, xf1⟩ := (R2.out.belowS HB1.out).c2
        generalize wr.alloc (.cells #[.int .u64 (fn : Int), .string (mkS fb), .slice p3 n3 c3] 64) = wa at *
        go_upto_region 8 with (fail)
        have B2 := bel1 wa (.cells #[.int .u8 (kd.val.toNat : Int), .slice p4 n4 c4] 111)
        have R9 := Lib.hid (RowAt.new wa #[.int .u8 (kd.val.toNat : Int), .slice p4 n4 c4] 111)
        have mv : ∀ a u, wa.cell? a = some u → (wa.alloc (.cells #[.int .u8 (kd.val.toNat : Int), .slice p4 n4 c4] 111)).cell? a = some u := fun a u h => by rw [B2.cell (block_lt_of_cell h)]; exact h
        have HB2 := Lib.hid (HB1.out.trans (B2.mono HB1.out.size))
        replace R8 := Lib.hid (R8.out.belowS B2)
        clear x0 x1 xf0 xf1 B2
        replace g0 := mv _ _ g0
        replace g1 := mv _ _ g1
        clear mv
        obtain ⟨x0, x1, xf0, xf1⟩ := (R2.out.belowS HB2.out).c2
        generalize wa.alloc (.cells #[.int .u8 (kd.val.toNat : Int), .slice p4 n4 c4] 111) = wb at *
        generalize wa.heap.size = k9 at *
        go_upto_region 10 with (fail)
        have HB3 := HB2
        clear HB2 x0 x1 xf0 xf1 g0 g1
        generalize wb = W5 at *
        obtain ⟨y0, y1, yf0, yf1⟩ := R9.out.c2
        obtain ⟨u0, u1, u2, uf0, uf1, uf2⟩ := R8.out.c3
        have KI := Lib.hid (HIC (p4, n4, c4) (.mk (fn, fb) fk) (p3, n3, c3) W5 HFO.out (RowT.below HKK.out HB3.out (Nat.le_refl _)) (RowT.below HFK.out HB3.out (Nat.le_refl _)))
        clear HKK HFK HIC
        have HBW := Lib.hid (HB.out.trans (HB3.out.mono HB.out.size))
        have HS5 := Lib.hid HB3.out.size
        replace R2 := Lib.hid (R2.out.belowS HB3.out)
        replace R4 := Lib.hid (R4.out.belowS HB3.out)
        replace R6 := Lib.hid (R6.out.belowS HB3.out)
        replace O := Lib.hid (O.out.below HB3.out (Nat.le_refl _))
        have HL6 := Lib.hid R6.out.lt
        have O0w := O
        clear HB HB3 R8 R9
        go_upto_region 11 with (go_at_call 146; refine KI.out.mono ?_; intro e w6 hpost; obtain ⟨l, b, p, n, c', is, rfl, hb, hcase⟩ := hpost; have HC := Lib.hid hcase; clear hcase; clear KI y0 y1 yf0 yf1 u0 u1 u2 uf0 uf1 uf2; have HS6 := Lib.hid hb.size; (replace R2 := Lib.hid (R2.out.belowS hb); replace R4 := Lib.hid (R4.out.belowS hb); replace R6 := Lib.hid (R6.out.belowS hb); replace O := Lib.hid (O.out.below hb (Nat.le_refl _)); replace HBW := Lib.hid (HBW.out.trans (hb.mono HBW.out.size)); clear hb))
        (replace R2 := Lib.hid (R2.out.alloc (.cells #[.bool l, .string (mkS b), .slice p n c'] 98)); replace R4 := Lib.hid (R4.out.alloc (.cells #[.bool l, .string (mkS b), .slice p n c'] 98)); replace R6 := Lib.hid (R6.out.alloc (.cells #[.bool l, .string (mkS b), .slice p n c'] 98)); replace O := Lib.hid (O.out.below ((Below.refl (w6).heap.size (w6)).alloc (Nat.le_refl _) (.cells #[.bool l, .string (mkS b), .slice p n c'] 98)) (Nat.le_refl _)); replace HBW := Lib.hid (HBW.out.alloc HBW.out.size (.cells #[.bool l, .string (mkS b), .slice p n c'] 98)))
        have R10 := Lib.hid (RowAt.new w6 #[.bool l, .string (mkS b), .slice p n c'] 98)
        rcases HC.out with ⟨hn0, rfl⟩ | ⟨ks', hs0, rfl, hrow⟩
        · have hno : Hid (res = none) := Lib.hid (by
            have h1 : partI (.mk c ks) fs (i + 1) = none := by rw [HST.out, HP.out, hn0]; rfl
            have h2 := partI_none (fun j hj hj2 => HKALL.out j (by omega) hj2) h1 (fs.length - (i + 1)) (by omega)
            rw [show i + 1 + (fs.length - (i + 1)) = fs.length by omega] at h2
            rw [HRES.out, if_pos FIT.out, h2]
            rfl)
          clear hn0 HC HST HP HKALL O
          generalize w6.alloc (.cells #[.bool l, .string (mkS b), .slice p n c'] 98) = w7 at *
          obtain ⟨z0, z1, z2, zf0, zf1, zf2⟩ := R4.out.c3
          go_wp2
          obtain ⟨r, bb⟩ := box3 R4.out HBW.out (Nat.le_succ _) (.bool false) (.string ⟨#[]⟩) (.slice none 0 0)
          obtain ⟨e0, e1, e2, _⟩ := r.c3
          refine bodyPost_ret (v := .tuple #[.agg #[.bool false, .string ⟨#[]⟩, .slice none 0 0], .bool false]) (by simp [results, Try.results100, go_sem, e0, e1, e2]) rfl ?_
          rw [hno.out]
          exact ItemPost.no (b := []) bb
        · have HP2 : Hid (partI (.mk c ks) fs (i + 1) = some (xs ++ [.mk l b ks'])) := Lib.hid (by rw [HST.out, HP.out, hs0]; rfl)
          have HY := Lib.hid ((OwnT.fresh (t := itT (.mk l b ks')) (s := (p, n, c')) O0w.out (Nat.le_refl _) (fun b hb => Nat.lt_of_lt_of_le HL6.out hb) (show RowT encIt (fun b => W5.heap.size ≤ b) w6 (.slice p n c') (itTs ks') from hrow)).move (bel2 w6 (.cells #[.bool l, .string (mkS b), .slice p n c'] 98) (.cells #[.bool l, .string (mkS b), .slice p n c'] 98)) (Nat.le_refl _))
          have R11 := Lib.hid (RowAt.new (w6.alloc (.cells #[.bool l, .string (mkS b), .slice p n c'] 98)) #[.bool l, .string (mkS b), .slice p n c'] 98)
          have O8 := Lib.hid (O.out.below (bel1 (w6.alloc (.cells #[.bool l, .string (mkS b), .slice p n c'] 98)) (.cells #[.bool l, .string (mkS b), .slice p n c'] 98)) (Nat.le_refl _))
          have HB8 := Lib.hid (HBW.out.trans ((bel1 (w6.alloc (.cells #[.bool l, .string (mkS b), .slice p n c'] 98)) (.cells #[.bool l, .string (mkS b), .slice p n c'] 98)).mono HBW.out.size))
          have R28 := Lib.hid (R2.out.alloc (.cells #[.bool l, .string (mkS b), .slice p n c'] 98))
          have R48 := Lib.hid (R4.out.alloc (.cells #[.bool l, .string (mkS b), .slice p n c'] 98))
          have R68 := Lib.hid (R6.out.alloc (.cells #[.bool l, .string (mkS b), .slice p n c'] 98))
          have HXL : Hid ((itTs xs).length = xs.length) := Lib.hid (by rw [itTs_map, List.length_map])
          have HTS : Hid (itTs (xs ++ [.mk l b ks']) = itTs xs ++ [itT (.mk l b ks')]) := Lib.hid (by rw [itTs_map, itTs_map, List.map_append]; rfl)
          have HSZ : Hid (k6 + 1 ≤ ((w6.alloc (.cells #[.bool l, .string (mkS b), .slice p n c'] 98)).alloc (.cells #[.bool l, .string (mkS b), .slice p n c'] 98)).heap.size) := Lib.hid R68.out.lt
          clear hs0 hrow HC HST HP HKALL O HBW O0w
          generalize w6.alloc (.cells #[.bool l, .string (mkS b), .slice p n c'] 98) = w7 at *
          generalize w6.heap.size = k10 at *
          obtain ⟨x0, x1, x2, xf0, xf1, xf2⟩ := R6.out.c3
          obtain ⟨y0, y1, y2, yf0, yf1, yf2⟩ := R10.out.c3
          go_upto_region 14 with (at_builtin; refine wpList_append_tree (E := encIt) (A := fun b => k6 < b) Try.underlying93 info_it rfl (by omega) rfl _ _ rfl (k6 + 1) _ (itTs xs) rfl O8.out ⟨w7.heap.size, 0, none⟩ (itT (.mk l b ks')) ((l, b), p, n, c') rfl (lit_cells R11.out rfl) HY.out (by have := HXL.out; omega) HSZ.out ?_)
          intro v' w' ho hg hbb hz
          obtain ⟨po', co', rfl, _, _⟩ := OwnT.shape ho
          have HN := Lib.hid (show (itTs xs ++ [itT (.mk l b ks')]).length = i + 1 by rw [List.length_append, HXL.out, hxl]; rfl)
          have hbk := hbb _ (Below.refl _ _)
          have R6' := Lib.hid (R68.out.below hbk (Nat.lt_succ_self _))
          have R2' := Lib.hid (R28.out.below hbk (by have := HZ.out; omega))
          have R4' := Lib.hid (R48.out.below hbk (by have := HZ.out; omega))
          have HB' := Lib.hid (HB8.out.trans (hbk.mono (by have := HZ.out; omega)))
          have O' : Hid (OwnT encIt 98 (fun b => k6 < b) w' (k6 + 1) (.slice po' (itTs xs ++ [itT (.mk l b ks')]).length co') (itTs (xs ++ [.mk l b ks']))) := Lib.hid (by rw [HTS.out]; exact ho)
          clear ho hg hbb hz hbk R6 R2 R4 R68 R28 R48 HB8 O8 x0 x1 x2 xf0 xf1 xf2 y0 y1 y2 yf0 yf1 yf2
          obtain ⟨x0, x1, x2, xf0, xf1, xf2⟩ := R6'.out.c3
          generalize (itTs xs ++ [itT (.mk l b ks')]).length = ln at *
          have R6'' := Lib.hid (R6'.out.set 2 (.slice po' ln co') rfl)
          have O'' := Lib.hid (O'.out.setLow ⟨k6, 2, none⟩ (.slice po' ln co') (Nat.lt_succ_self _) (fun b hb => by simp only; omega))
          have R2'' := Lib.hid (R2'.out.other ⟨k6, 2, none⟩ (.slice po' ln co') (by have := HZ.out; simp only; omega))
          have R4'' := Lib.hid (R4'.out.other ⟨k6, 2, none⟩ (.slice po' ln co') (by have := HZ.out; simp only; omega))
          have HB'' := Lib.hid (HB'.out.setCell (p := ⟨k6, 2, none⟩) (by have := HZ.out; simp only; omega) (.slice po' ln co'))
          clear R6' O' R2' R4' HB'
          go_wp2
          exact ⟨⟨i + 1, xs ++ [.mk l b ks'], po', ln, co', by omega, by simp [hxl], by simp, HP2, R6'', O'', R2'', R4'', HB''⟩, by simp [intOf]; omega⟩
      · obtain rfl : i = fs.length := by omega
        have hfin := HRES.out
        rw [if_pos FIT.out, HP.out] at hfin
        have HF := Lib.hid hfin
        have HI := Lib.hid (show RowT encIt (fun b => k6 < b) wr (.slice po no co) (itTs xs) from O.out.row (fun b hb => hb))
        clear hfin HP HRES O
        obtain ⟨x0, x1, x2, xf0, xf1, xf2⟩ := R6.out.c3
        obtain ⟨z0, z1, z2, zf0, zf1, zf2⟩ := R4.out.c3
        go_wp2
        obtain ⟨r, b⟩ := box3 R4.out HB.out (Nat.le_succ _) (.bool true) (.string ⟨#[]⟩) (.slice po no co)
        obtain ⟨e0, e1, e2, _⟩ := r.c3
        refine bodyPost_ret (v := .tuple #[.agg #[.bool true, .string ⟨#[]⟩, .slice po no co], .bool true]) (by simp [results, Try.results100, go_sem, e0, e1, e2]) rfl ?_
        rw [HF.out]
        exact ⟨true, [], po, no, co, true, rfl, b, .inr ⟨xs, rfl, rfl, HI.out.keep (fun a v ha hc => by rw [World.cell?_setCell_other, World.cell?_setCell_other, World.cell?_setCell_other]; exact hc; all_goals (intro e; subst e; have := HZ.out; simp only at ha; omega)) (fun b hb => by have := HZ.out; omega)⟩⟩
  · have q1 : ((c.toNat : Int) == 42) = false := c8_ne (n := 42) (by omega) h42
    have q2 : ((c.toNat : Int) != 42) = true := by rw [bne, q1]; rfl
    by_cases hfit : fs.length = ks.length
    rotate_left
    have q3 : ((fs.length : Int) != (ks.length : Int)) = true := bne_iff_ne.2 (by omega)
    have hno : Hid (res = none) := Lib.hid (by have := HRES.out; rw [this, if_neg (by unfold fitN; first | (rw [if_pos h42]; simpa using hfit) | (rw [if_neg h42]; simpa using hfit))])
    clear HRES HP0 H hk h42 hfit
    go_wp2
    obtain ⟨r, b⟩ := box3 R4.out HB.out (Nat.le_succ _) (.bool false) (.string ⟨#[]⟩) (.slice none 0 0)
    obtain ⟨e0, e1, e2, _⟩ := r.c3
    refine bodyPost_ret (v := .tuple #[.agg #[.bool false, .string ⟨#[]⟩, .slice none 0 0], .bool false]) (by simp [results, Try.results100, go_sem, e0, e1, e2]) rfl ?_
    rw [hno.out]
    exact ItemPost.no (b := []) b
    have q3 : ((fs.length : Int) != (ks.length : Int)) = false := by simp [hfit]
    have FIT : Hid (fitN (.mk c ks) fs.length = true) := Lib.hid (by unfold fitN; first | (rw [if_pos h42]; simpa using hfit) | (rw [if_neg h42]; simpa using hfit))
    have hfl : fs.length ≤ 1000 := by omega
    have HFIT := Lib.hid hfit
    clear hfit
    go_upto_region 4 with (fail)
    obtain ⟨e0, e1, e2, _⟩ := (RowAt.new W #[.bool true, .string ⟨#[]⟩, .slice none 0 0] 98).c3
    refine bodyPost_ret (v := .agg #[.bool true, .string ⟨#[]⟩, .slice none 0 0]) (by simp [results, Try.results87, go_sem, e0, e1, e2]) rfl ?_
    dsimp only
    (replace R2 := Lib.hid (R2.out.alloc (.cells #[.bool true, .string ⟨#[]⟩, .slice none 0 0] 98)); replace R4 := Lib.hid (R4.out.alloc (.cells #[.bool true, .string ⟨#[]⟩, .slice none 0 0] 98)); replace HB := Lib.hid (HB.out.alloc HB.out.size (.cells #[.bool true, .string ⟨#[]⟩, .slice none 0 0] 98)))
    have R6 := Lib.hid (RowAt.new' (W.alloc (.cells #[.bool true, .string ⟨#[]⟩, .slice none 0 0] 98)) #[.bool true, .string ⟨#[]⟩, .slice none 0 0] 98 (k := W.heap.size + 1) (by simp))
    have HZ : Hid (w.heap.size + 2 ≤ W.heap.size + 1) := Lib.hid (by have := R4.out; have := HWS.out; omega)
    (replace R2 := Lib.hid (R2.out.alloc (.cells #[.bool true, .string ⟨#[]⟩, .slice none 0 0] 98)); replace R4 := Lib.hid (R4.out.alloc (.cells #[.bool true, .string ⟨#[]⟩, .slice none 0 0] 98)); replace HB := Lib.hid (HB.out.alloc HB.out.size (.cells #[.bool true, .string ⟨#[]⟩, .slice none 0 0] 98)))
    clear x0 x1 xf0 xf1 z0 z1 z2 zf0 zf1 zf2 e0 e1 e2 HWS
    go_upto_region 4 with (fail)
    generalize (W.alloc (.cells #[.bool true, .string ⟨#[]⟩, .slice none 0 0] 98)).alloc (.cells #[.bool true, .string ⟨#[]⟩, .slice none 0 0] 98) = W3 at *
    generalize W.heap.size + 1 = k6 at *
    have O0 : Hid (OwnT encIt 98 (fun b => k6 < b) W3 (k6 + 1) (.slice none 0 0) (itTs [])) := Lib.hid (OwnT.nil _ _)
    clear q3
    go_wp2
    go_loopw [37] (fun s37 wr => ∃ (i : Nat) (xs : List It) (po : Option Addr) (no co : Nat), i ≤ fs.length ∧ xs.length = i ∧ s37 = .int .i64 i ∧ Hid (partI (.mk c ks) fs i = some xs) ∧ Hid (RowAt wr k6 #[.bool true, .string ⟨#[]⟩, .slice po no co] 98) ∧ Hid (OwnT encIt 98 (fun b => k6 < b) wr (k6 + 1) (.slice po no co) (itTs xs)) ∧ Hid (RowAt wr w.heap.size #[.int .u8 c.toNat, .slice pk ks.length ck] 111) ∧ Hid (RowAt wr (w.heap.size + 1) #[.bool false, .string ⟨#[]⟩, .slice none 0 0] 98) ∧ Hid (Below w.heap.size w wr)) (fun s _ => fs.length - (intOf s).toNat)
    case atStart => exact ⟨0, [], none, 0, 0, Nat.zero_le _, rfl, rfl, HP0, R6, O0, R2, R4, HB⟩
    case round =>
      clear HP0 R6 O0 R2 R4 HB
      obtain ⟨i, xs, po, no, co, hi, hxl, rfl, hp, h6, ho, h2, h4, hb⟩ := hrel
      have HP := Lib.hid hp.out
      have R6 := Lib.hid h6.out
      have O := Lib.hid ho.out
      have R2 := Lib.hid h2.out
      have R4 := Lib.hid h4.out
      have HB := Lib.hid hb.out
      clear hp h6 ho h2 h4 hb
      by_cases hlt : i < fs.length
      · obtain ⟨f, hf⟩ : ∃ f, fs[i]? = some f := ⟨_, List.getElem?_eq_getElem hlt⟩
        have HFO := Lib.hid (fsOk_mem HOK.out f (List.mem_of_getElem? hf))
        obtain ⟨adf, sf, rfl, hfc, hfk⟩ := RowT.at2 (HF0.out.below HB.out (Nat.le_refl _)) hf
        obtain ⟨kd, hkd⟩ : ∃ kd, ks[i]? = some kd := ⟨_, List.getElem?_eq_getElem (by have := HFIT.out; omega)⟩
        obtain ⟨kd0, hkd0⟩ : ∃ kd0, ks[0]? = some kd0 := ⟨_, List.getElem?_eq_getElem (by have := HFIT.out; omega)⟩
        have hkall : ∀ j, i ≤ j → j < fs.length → ∃ kd, kindAt (.mk c ks) j = some kd := fun j _ hj => ⟨_, by unfold kindAt; rw [if_neg h42]; exact List.getElem?_eq_getElem (show j < ks.length by have := HFIT.out; omega)⟩
        have hstep := partI_step (k := .mk c ks) (show kindAt (.mk c ks) i = some kd by unfold kindAt; rw [if_neg h42]; exact hkd) hf
        obtain ⟨adk, sk, rfl, hkc, hkk⟩ := RowT.at2 (RowT.below (show RowT encK (fun _ => True) w (.slice pk ks.length ck) ks from HK0.out) HB.out (Nat.le_refl _)) hkd
        obtain ⟨adk', sk0, ek, hkc0, -⟩ := RowT.at2 (RowT.below (show RowT encK (fun _ => True) w (.slice (some adk) ks.length ck) ks from HK0.out) HB.out (Nat.le_refl _)) hkd0
        injection ek with ek
        subst ek
        obtain ⟨p5, n5, c5⟩ := sk0
        have m0 := hkc0 0 _ rfl
        have m1 := hkc0 1 _ rfl
        replace m0 : wr.cell? adk = some (.int .u8 (kd0.val.toNat : Int)) := m0
        replace m1 : wr.cell? ⟨adk.block, adk.off + 1, none⟩ = some (.slice p5 n5 c5) := m1
        generalize kd0.val.toNat = v0 at *
        have HIC := H kd (List.mem_of_getElem? hkd)
        obtain ⟨p4, n4, c4⟩ := sk
        obtain ⟨p3, n3, c3⟩ := sf
        obtain ⟨⟨fn, fb⟩, fk⟩ := f
        have f0 := hfc 0 _ rfl
        have f1' := hfc 1 _ rfl
        have f2' := hfc 2 _ rfl
        have g0 := hkc 0 _ rfl
        have g1 := hkc 1 _ rfl
        replace f0 : wr.cell? (adf.add (i * 3)) = some (.int .u64 (fn : Int)) := f0
        replace f1' : wr.cell? ⟨(adf.add (i * 3)).block, (adf.add (i * 3)).off + 1, none⟩ = some (.string (mkS fb)) := f1'
        replace f2' : wr.cell? ⟨(adf.add (i * 3)).block, (adf.add (i * 3)).off + 2, none⟩ = some (.slice p3 n3 c3) := f2'
        replace g0 : wr.cell? (adk.add (i * 2)) = some (.int .u8 (kd.val.toNat : Int)) := g0
        replace g1 : wr.cell? ⟨(adk.add (i * 2)).block, (adk.add (i * 2)).off + 1, none⟩ = some (.slice p4 n4 c4) := g1
        obtain ⟨x0, x1, xf0, xf1⟩ := R2.out.c2
        have HST := Lib.hid hstep
        have HKALL := Lib.hid hkall
        have HFK := Lib.hid hfk
        have HKK := Lib.hid hkk
        clear hstep hkall hfk hkk hfc hkc hf
        have hks0 : 0 < ks.length := (List.getElem?_eq_some_iff.1 hkd0).1
        have hki : i < ks.length := (List.getElem?_eq_some_iff.1 hkd).1
        go_upto_region 7 with (fail)
        have B1 := bel1 wr (.cells #[.int .u64 (fn : Int), .string (mkS fb), .slice p3 n3 c3] 64)
        have R8 := Lib.hid (RowAt.new wr #[.int .u64 (fn : Int), .string (mkS fb), .slice p3 n3 c3] 64)
        have mv : ∀ a u, wr.cell? a = some u → (wr.alloc (.cells #[.int .u64 (fn : Int), .string (mkS fb), .slice p3 n3 c3] 64)).cell? a = some u := fun a u h => by rw [B1.cell (block_lt_of_cell h)]; exact h
        have HB1 := Lib.hid B1
        have HK9 := Lib.hid R8.out.lt
        clear x0 x1 xf0 xf1 f0 f1' f2' B1
        replace g0 := mv _ _ g0
        replace g1 := mv _ _ g1
        replace m0 := mv _ _ m0
        replace m1 := mv _ _ m1
        clear mv
        obtain ⟨x0, x1, xf0, xf1⟩ := (R2.out.belowS HB1.out).c2
        generalize wr.alloc (.cells #[.int .u64 (fn : Int), .string (mkS fb), .slice p3 n3 c3] 64) = wa at *
        go_upto_region 8 with (fail)
        have B2 := bel1 wa (.cells #[.int .u8 (v0 : Int), .slice p5 n5 c5] 111)
        have R9 := Lib.hid (RowAt.new wa #[.int .u8 (v0 : Int), .slice p5 n5 c5] 111)
        have mv : ∀ a u, wa.cell? a = some u → (wa.alloc (.cells #[.int .u8 (v0 : Int), .slice p5 n5 c5] 111)).cell? a = some u := fun a u h => by rw [B2.cell (block_lt_of_cell h)]; exact h
        have HB2 := Lib.hid (HB1.out.trans (B2.mono HB1.out.size))
        replace R8 := Lib.hid (R8.out.belowS B2)
        clear x0 x1 xf0 xf1 B2
        replace g0 := mv _ _ g0
        replace g1 := mv _ _ g1
        clear mv
        obtain ⟨x0, x1, xf0, xf1⟩ := (R2.out.belowS HB2.out).c2
        generalize wa.alloc (.cells #[.int .u8 (v0 : Int), .slice p5 n5 c5] 111) = wb at *
        generalize wa.heap.size = k9 at *
        obtain ⟨y0, y1, yf0, yf1⟩ := R9.out.c2
        go_upto_region 10 with (fail)
        replace R9 : Hid (RowAt ((wb.setCell ⟨k9, 0, none⟩ (.int .u8 (kd.val.toNat : Int))).setCell ⟨k9, 1, none⟩ (.slice p4 n4 c4)) k9 #[.int .u8 (kd.val.toNat : Int), .slice p4 n4 c4] 111) := Lib.hid ((R9.out.set 0 _ rfl).set 1 _ rfl)
        replace R8 : Hid (RowAt ((wb.setCell ⟨k9, 0, none⟩ (.int .u8 (kd.val.toNat : Int))).setCell ⟨k9, 1, none⟩ (.slice p4 n4 c4)) wr.heap.size #[.int .u64 (fn : Int), .string (mkS fb), .slice p3 n3 c3] 64) := Lib.hid ((R8.out.other ⟨k9, 0, none⟩ _ (by have := HK9.out; simp only; omega)).other ⟨k9, 1, none⟩ _ (by have := HK9.out; simp only; omega))
        have HB3 : Hid (Below wr.heap.size wr ((wb.setCell ⟨k9, 0, none⟩ (.int .u8 (kd.val.toNat : Int))).setCell ⟨k9, 1, none⟩ (.slice p4 n4 c4))) := Lib.hid ((HB2.out.setCell (p := ⟨k9, 0, none⟩) (Nat.le_of_lt HK9.out) _).setCell (p := ⟨k9, 1, none⟩) (Nat.le_of_lt HK9.out) _)
        clear HB2 x0 x1 xf0 xf1 g0 g1 m0 m1 y0 y1 yf0 yf1
        generalize (wb.setCell ⟨k9, 0, none⟩ (.int .u8 (kd.val.toNat : Int))).setCell ⟨k9, 1, none⟩ (.slice p4 n4 c4) = W5 at *
        obtain ⟨y0, y1, yf0, yf1⟩ := R9.out.c2
        obtain ⟨u0, u1, u2, uf0, uf1, uf2⟩ := R8.out.c3
        have KI := Lib.hid (HIC (p4, n4, c4) (.mk (fn, fb) fk) (p3, n3, c3) W5 HFO.out (RowT.below HKK.out HB3.out (Nat.le_refl _)) (RowT.below HFK.out HB3.out (Nat.le_refl _)))
        clear HKK HFK HIC
        have HBW := Lib.hid (HB.out.trans (HB3.out.mono HB.out.size))
        have HS5 := Lib.hid HB3.out.size
        replace R2 := Lib.hid (R2.out.belowS HB3.out)
        replace R4 := Lib.hid (R4.out.belowS HB3.out)
        replace R6 := Lib.hid (R6.out.belowS HB3.out)
        replace O := Lib.hid (O.out.below HB3.out (Nat.le_refl _))
        have HL6 := Lib.hid R6.out.lt
        have O0w := O
        clear HB HB3 R8 R9
        go_upto_region 11 with (go_at_call 146; refine KI.out.mono ?_; intro e w6 hpost; obtain ⟨l, b, p, n, c', is, rfl, hb, hcase⟩ := hpost; have HC := Lib.hid hcase; clear hcase; clear KI y0 y1 yf0 yf1 u0 u1 u2 uf0 uf1 uf2; have HS6 := Lib.hid hb.size; (replace R2 := Lib.hid (R2.out.belowS hb); replace R4 := Lib.hid (R4.out.belowS hb); replace R6 := Lib.hid (R6.out.belowS hb); replace O := Lib.hid (O.out.below hb (Nat.le_refl _)); replace HBW := Lib.hid (HBW.out.trans (hb.mono HBW.out.size)); clear hb))
        (replace R2 := Lib.hid (R2.out.alloc (.cells #[.bool l, .string (mkS b), .slice p n c'] 98)); replace R4 := Lib.hid (R4.out.alloc (.cells #[.bool l, .string (mkS b), .slice p n c'] 98)); replace R6 := Lib.hid (R6.out.alloc (.cells #[.bool l, .string (mkS b), .slice p n c'] 98)); replace O := Lib.hid (O.out.below ((Below.refl (w6).heap.size (w6)).alloc (Nat.le_refl _) (.cells #[.bool l, .string (mkS b), .slice p n c'] 98)) (Nat.le_refl _)); replace HBW := Lib.hid (HBW.out.alloc HBW.out.size (.cells #[.bool l, .string (mkS b), .slice p n c'] 98)))
        have R10 := Lib.hid (RowAt.new w6 #[.bool l, .string (mkS b), .slice p n c'] 98)
        rcases HC.out with ⟨hn0, rfl⟩ | ⟨ks', hs0, rfl, hrow⟩
        · have hno : Hid (res = none) := Lib.hid (by
            have h1 : partI (.mk c ks) fs (i + 1) = none := by rw [HST.out, HP.out, hn0]; rfl
            have h2 := partI_none (fun j hj hj2 => HKALL.out j (by omega) hj2) h1 (fs.length - (i + 1)) (by omega)
            rw [show i + 1 + (fs.length - (i + 1)) = fs.length by omega] at h2
            rw [HRES.out, if_pos FIT.out, h2]
            rfl)
          clear hn0 HC HST HP HKALL O
          generalize w6.alloc (.cells #[.bool l, .string (mkS b), .slice p n c'] 98) = w7 at *
          obtain ⟨z0, z1, z2, zf0, zf1, zf2⟩ := R4.out.c3
          go_wp2
          obtain ⟨r, bb⟩ := box3 R4.out HBW.out (Nat.le_succ _) (.bool false) (.string ⟨#[]⟩) (.slice none 0 0)
          obtain ⟨e0, e1, e2, _⟩ := r.c3
          refine bodyPost_ret (v := .tuple #[.agg #[.bool false, .string ⟨#[]⟩, .slice none 0 0], .bool false]) (by simp [results, Try.results100, go_sem, e0, e1, e2]) rfl ?_
          rw [hno.out]
          exact ItemPost.no (b := []) bb
        · have HP2 : Hid (partI (.mk c ks) fs (i + 1) = some (xs ++ [.mk l b ks'])) := Lib.hid (by rw [HST.out, HP.out, hs0]; rfl)
          have HY := Lib.hid ((OwnT.fresh (t := itT (.mk l b ks')) (s := (p, n, c')) O0w.out (Nat.le_refl _) (fun b hb => Nat.lt_of_lt_of_le HL6.out hb) (show RowT encIt (fun b => W5.heap.size ≤ b) w6 (.slice p n c') (itTs ks') from hrow)).move (bel2 w6 (.cells #[.bool l, .string (mkS b), .slice p n c'] 98) (.cells #[.bool l, .string (mkS b), .slice p n c'] 98)) (Nat.le_refl _))
          have R11 := Lib.hid (RowAt.new (w6.alloc (.cells #[.bool l, .string (mkS b), .slice p n c'] 98)) #[.bool l, .string (mkS b), .slice p n c'] 98)
          have O8 := Lib.hid (O.out.below (bel1 (w6.alloc (.cells #[.bool l, .string (mkS b), .slice p n c'] 98)) (.cells #[.bool l, .string (mkS b), .slice p n c'] 98)) (Nat.le_refl _))
          have HB8 := Lib.hid (HBW.out.trans ((bel1 (w6.alloc (.cells #[.bool l, .string (mkS b), .slice p n c'] 98)) (.cells #[.bool l, .string (mkS b), .slice p n c'] 98)).mono HBW.out.size))
          have R28 := Lib.hid (R2.out.alloc (.cells #[.bool l, .string (mkS b), .slice p n c'] 98))
          have R48 := Lib.hid (R4.out.alloc (.cells #[.bool l, .string (mkS b), .slice p n c'] 98))
          have R68 := Lib.hid (R6.out.alloc (.cells #[.bool l, .string (mkS b), .slice p n c'] 98))
          have HXL : Hid ((itTs xs).length = xs.length) := Lib.hid (by rw [itTs_map, List.length_map])
          have HTS : Hid (itTs (xs ++ [.mk l b ks']) = itTs xs ++ [itT (.mk l b ks')]) := Lib.hid (by rw [itTs_map, itTs_map, List.map_append]; rfl)
          have HSZ : Hid (k6 + 1 ≤ ((w6.alloc (.cells #[.bool l, .string (mkS b), .slice p n c'] 98)).alloc (.cells #[.bool l, .string (mkS b), .slice p n c'] 98)).heap.size) := Lib.hid R68.out.lt
          clear hs0 hrow HC HST HP HKALL O HBW O0w
          generalize w6.alloc (.cells #[.bool l, .string (mkS b), .slice p n c'] 98) = w7 at *
          generalize w6.heap.size = k10 at *
          obtain ⟨x0, x1, x2, xf0, xf1, xf2⟩ := R6.out.c3
          obtain ⟨y0, y1, y2, yf0, yf1, yf2⟩ := R10.out.c3
          go_upto_region 14 with (at_builtin; refine wpList_append_tree (E := encIt) (A := fun b => k6 < b) Try.underlying93 info_it rfl (by omega) rfl _ _ rfl (k6 + 1) _ (itTs xs) rfl O8.out ⟨w7.heap.size, 0, none⟩ (itT (.mk l b ks')) ((l, b), p, n, c') rfl (lit_cells R11.out rfl) HY.out (by have := HXL.out; omega) HSZ.out ?_)
          intro v' w' ho hg hbb hz
          obtain ⟨po', co', rfl, _, _⟩ := OwnT.shape ho
          have HN := Lib.hid (show (itTs xs ++ [itT (.mk l b ks')]).length = i + 1 by rw [List.length_append, HXL.out, hxl]; rfl)
          have hbk := hbb _ (Below.refl _ _)
          have R6' := Lib.hid (R68.out.below hbk (Nat.lt_succ_self _))
          have R2' := Lib.hid (R28.out.below hbk (by have := HZ.out; omega))
          have R4' := Lib.hid (R48.out.below hbk (by have := HZ.out; omega))
          have HB' := Lib.hid (HB8.out.trans (hbk.mono (by have := HZ.out; omega)))
          have O' : Hid (OwnT encIt 98 (fun b => k6 < b) w' (k6 + 1) (.slice po' (itTs xs ++ [itT (.mk l b ks')]).length co') (itTs (xs ++ [.mk l b ks']))) := Lib.hid (by rw [HTS.out]; exact ho)
          clear ho hg hbb hz hbk R6 R2 R4 R68 R28 R48 HB8 O8 x0 x1 x2 xf0 xf1 xf2 y0 y1 y2 yf0 yf1 yf2
          obtain ⟨x0, x1, x2, xf0, xf1, xf2⟩ := R6'.out.c3
          generalize (itTs xs ++ [itT (.mk l b ks')]).length = ln at *
          have R6'' := Lib.hid (R6'.out.set 2 (.slice po' ln co') rfl)
          have O'' := Lib.hid (O'.out.setLow ⟨k6, 2, none⟩ (.slice po' ln co') (Nat.lt_succ_self _) (fun b hb => by simp only; omega))
          have R2'' := Lib.hid (R2'.out.other ⟨k6, 2, none⟩ (.slice po' ln co') (by have := HZ.out; simp only; omega))
          have R4'' := Lib.hid (R4'.out.other ⟨k6, 2, none⟩ (.slice po' ln co') (by have := HZ.out; simp only; omega))
          have HB'' := Lib.hid (HB'.out.setCell (p := ⟨k6, 2, none⟩) (by have := HZ.out; simp only; omega) (.slice po' ln co'))
          clear R6' O' R2' R4' HB'
          go_wp2
          exact ⟨⟨i + 1, xs ++ [.mk l b ks'], po', ln, co', by omega, by simp [hxl], by simp, HP2, R6'', O'', R2'', R4'', HB''⟩, by simp [intOf]; omega⟩
      · obtain rfl : i = fs.length := by omega
        have hfin := HRES.out
        rw [if_pos FIT.out, HP.out] at hfin
        have HF := Lib.hid hfin
        have HI := Lib.hid (show RowT encIt (fun b => k6 < b) wr (.slice po no co) (itTs xs) from O.out.row (fun b hb => hb))
        clear hfin HP HRES O
        obtain ⟨x0, x1, x2, xf0, xf1, xf2⟩ := R6.out.c3
        obtain ⟨z0, z1, z2, zf0, zf1, zf2⟩ := R4.out.c3
        go_wp2
        obtain ⟨r, b⟩ := box3 R4.out HB.out (Nat.le_succ _) (.bool true) (.string ⟨#[]⟩) (.slice po no co)
        obtain ⟨e0, e1, e2, _⟩ := r.c3
        refine bodyPost_ret (v := .tuple #[.agg #[.bool true, .string ⟨#[]⟩, .slice po no co], .bool true]) (by simp [results, Try.results100, go_sem, e0, e1, e2]) rfl ?_
        rw [HF.out]
        exact ⟨true, [], po, no, co, true, rfl, b, .inr ⟨xs, rfl, rfl, HI.out.keep (fun a v ha hc => by rw [World.cell?_setCell_other, World.cell?_setCell_other, World.cell?_setCell_other]; exact hc; all_goals (intro e; subst e; have := HZ.out; simp only at ha; omega)) (fun b hb => by have := HZ.out; omega)⟩⟩
end Go.Proofs.Ytefmlbckbhlgdaa

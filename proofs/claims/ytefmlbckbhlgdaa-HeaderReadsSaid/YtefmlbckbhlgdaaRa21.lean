/- The reference's Read of fields, by a flat form. The reference's Read of fields by a flat form, walked. The reference's numbers: times 256; the number of the lowest digits; the number of bytes. Numbers read: u256.From over 32 bytes. -/
import Derived.Laws.OwnMore
import Derived.Laws.Bits64b
import Derived.Test.YtefmlbckbhlgdaaRa12
import Derived.Test.YtefmlbckbhlgdaaRa15
import Derived.Test.YtefmlbckbhlgdaaRa18
import Derived.Test.YtefmlbckbhlgdaaRa20
namespace Go.Proofs.Ytefmlbckbhlgdaa
open Go.RowKit
set_option maxRecDepth 100000
def It.kids' : It → List It
  | .mk _ _ ks => ks
/-- An item as a field by a kind of one level, whatever it is. -/
def rfieldT : List UInt8 → It → Fd
  | [_, c], x => .mk (0, []) (x.kids'.map (rleafF c))
  | [c], x => rleafF c x
  | _, _ => .mk (0, []) []
def rtok (toks : List (List UInt8)) (i : Nat) : List UInt8 := (toks[i]?).getD [98]
/-- A list's items as fields. -/
def rfieldsL (toks : List (List UInt8)) (ks : List It) : List Fd := ks.mapIdx fun i x => rfieldT (rtok toks i) x
theorem rfieldsL_get (toks : List (List UInt8)) {ks : List It} {i : Nat} {x : It} (h : ks[i]? = some x) : (rfieldsL toks ks)[i]? = some (rfieldT (rtok toks i) x) := by
  unfold rfieldsL
  rw [List.getElem?_mapIdx, h]
  rfl
theorem rfieldsL_len (toks : List (List UInt8)) (ks : List It) : (rfieldsL toks ks).length = ks.length := by simp [rfieldsL]
theorem rtok_ok {toks : List (List UInt8)} (h : ∀ t ∈ toks, tokOk t) (i : Nat) : tokOk (rtok toks i) := by
  unfold rtok
  cases e : toks[i]? with
  | none => exact ⟨98, by decide, .inl rfl⟩
  | some t => exact h t (List.mem_of_getElem? e)
theorem rleafF_ok (c : UInt8) (x : It) : fOk (rleafF c x) := by
  obtain ⟨l, b, ks⟩ := x
  rw [rleafF]
  split
  · rw [fOk]; exact ⟨value_lt _, trivial⟩
  · rw [fOk]; exact ⟨(by decide : (0 : Nat) < 18446744073709551616), trivial⟩
theorem fsOk_all : ∀ {l : List Fd}, (∀ f ∈ l, fOk f) → fsOk l
  | [], _ => trivial
  | f :: l, h => by rw [fsOk]; exact ⟨h f List.mem_cons_self, fsOk_all fun g hg => h g (List.mem_cons_of_mem _ hg)⟩
theorem rfieldT_ok {t : List UInt8} (ht : tokOk t) (x : It) : fOk (rfieldT t x) := by
  obtain ⟨c, _, rfl | rfl⟩ := ht
  · exact rleafF_ok c x
  · show fOk (.mk (0, []) (x.kids'.map (rleafF c)))
    rw [fOk]
    exact ⟨(by decide : (0 : Nat) < 18446744073709551616), fsOk_all fun f hf => by
      obtain ⟨y, _, rfl⟩ := List.mem_map.1 hf
      exact rleafF_ok c y⟩
theorem rfieldsL_ok {toks : List (List UInt8)} (h : ∀ t ∈ toks, tokOk t) (ks : List It) : fsOk (rfieldsL toks ks) := fsOk_all fun f hf => by
  obtain ⟨i, hi⟩ := List.getElem?_of_mem hf
  have hlt := (List.getElem?_eq_some_iff.1 hi).1
  rw [rfieldsL_len] at hlt
  rw [rfieldsL_get toks (List.getElem?_eq_getElem hlt)] at hi
  rw [← Option.some.inj hi]
  exact rfieldT_ok (rtok_ok h i) _
/-- What fits is read the same. -/
theorem rleafF_eq {c : UInt8} (hc : leafK c = true) {x : It} {f : Fd} (h : fieldK (.mk c []) x = some f) : rleafF c x = f := by
  have h42 : c ≠ 42 := by rintro rfl; revert hc; decide
  have h40 : c ≠ 40 := by rintro rfl; revert hc; decide
  obtain ⟨l, b, ks⟩ := x
  rw [fieldK] at h
  rw [rleafF]
  by_cases h1 : c = 110
  · rw [if_pos h1] at h ⊢
    split at h
    · exact Option.some.inj h
    · cases h
  · rw [if_neg h1, if_neg h42, if_neg h40] at h
    rw [if_neg h1]
    split at h
    · cases h
    · exact Option.some.inj h
theorem mapM_leaf {c : UInt8} (hc : leafK c = true) {ks : List It} {l : List Fd} (h : ks.mapM (fieldK (.mk c [])) = some l) : ks.map (rleafF c) = l := by
    obtain ⟨h1, h2⟩ := mapM_get h
    refine List.ext_getElem? fun i => ?_
    rw [List.getElem?_map]
    cases e : ks[i]? with
    | none => rw [List.getElem?_eq_none_iff] at e; rw [List.getElem?_eq_none (by omega)]; rfl
    | some x =>
      obtain ⟨y, hy, hx⟩ := h2 i x e
      rw [hy, Option.map_some, rleafF_eq hc hx]
theorem rfieldT_eq {t : List UInt8} (ht : tokOk t) {x : It} {f : Fd} (h : fieldK (tokK t) x = some f) : rfieldT t x = f := by
  obtain ⟨c, hc, rfl | rfl⟩ := ht
  · exact rleafF_eq hc h
  · obtain ⟨l, b, ks⟩ := x
    have h' : fieldK (.mk 42 [.mk c []]) (.mk l b ks) = some f := h
    rw [fieldK, if_neg (by decide), if_pos rfl] at h'
    split at h'
    · rw [starF] at h'
      cases hm : ks.mapM (fieldK (.mk c [])) with
      | none => rw [hm] at h'; cases h'
      | some l =>
        rw [hm] at h'
        rw [← Option.some.inj h']
        show Tr.mk (0, []) (ks.map (rleafF c)) = _
        rw [mapM_leaf hc hm]
    · cases h'
theorem rowF_get : ∀ {ks : List Kd} {l : List It} {xs : List Fd}, rowF ks l = some xs → xs.length = l.length ∧ ks.length = l.length ∧ ∀ (i : Nat) (k : Kd) (f : It), ks[i]? = some k → l[i]? = some f → ∃ y, xs[i]? = some y ∧ fieldK k f = some y
  | [], [], xs, h => by rw [rowF] at h; obtain rfl := Option.some.inj h; exact ⟨rfl, rfl, fun i k f h => by simp at h⟩
  | [], _ :: _, _, h => by rw [rowF] at h; cases h
  | _ :: _, [], _, h => by rw [rowF] at h; cases h
  | k :: ks, f :: l, xs, h => by
    rw [rowF] at h
    cases hi : fieldK k f with
    | none => rw [hi] at h; cases h
    | some y =>
      cases hr : rowF ks l with
      | none => rw [hi, hr] at h; cases h
      | some ys =>
        rw [hi, hr] at h
        obtain rfl := Option.some.inj h
        obtain ⟨h1, h2, h3⟩ := rowF_get hr
        refine ⟨by simp [h1], by simp [h2], fun i k' f' hk hf => ?_⟩
        cases i with
        | zero => simp at hk hf; subst hk hf; exact ⟨y, rfl, hi⟩
        | succ i => simpa using h3 i k' f' (by simpa using hk) (by simpa using hf)
theorem rfieldsL_eq {toks : List (List UInt8)} (ht : ∀ t ∈ toks, tokOk t) {ks : List It} {l : List Fd} (h : rowF (toks.map tokK) ks = some l) : rfieldsL toks ks = l := by
  obtain ⟨h1, h2, h3⟩ := rowF_get h
  rw [List.length_map] at h2
  refine List.ext_getElem? fun i => ?_
  cases e : ks[i]? with
  | none =>
    rw [List.getElem?_eq_none_iff] at e
    rw [List.getElem?_eq_none (by rw [rfieldsL_len]; exact e), List.getElem?_eq_none (by omega)]
  | some x =>
    have hlt := (List.getElem?_eq_some_iff.1 e).1
    obtain ⟨t, htk⟩ : ∃ t, toks[i]? = some t := ⟨_, List.getElem?_eq_getElem (by omega)⟩
    obtain ⟨y, hy, hx⟩ := h3 i (tokK t) x (by rw [List.getElem?_map, htk]; rfl) e
    rw [rfieldsL_get toks e, hy, show rtok toks i = t by unfold rtok; rw [htk]; rfl, rfieldT_eq (ht t (List.mem_of_getElem? htk)) hx]

/-- What the reference reads is what is read. -/
theorem readF_ok {form : List UInt8} {toks : List (List UInt8)} (ht : ∀ t ∈ toks, tokOk t) {s : List UInt8} (hw : writeF form (rfieldsL toks (decL s).1.kids') = (s, 0)) : readF form s = (rfieldsL toks (decL s).1.kids', 0) :=
  read_written hw (rfieldsL_ok ht _)
theorem readF_only {form : List UInt8} {toks : List (List UInt8)} (ht : ∀ t ∈ toks, tokOk t) (hk : kindsL form = some (toks.map tokK)) {s : List UInt8} (h : (readF form s).2 = 0) : (decL s).2 = 0 ∧ writeF form (rfieldsL toks (decL s).1.kids') = (s, 0) := by
  have hw := written_read (form := form) (s := s) (m := (readF form s).1) (by rw [← h])
  unfold readF at h hw
  simp only [hk] at h hw
  by_cases hd : (decL s).2 ≠ 0
  · rw [if_pos hd] at h
    exact absurd h hd
  · rw [if_neg hd] at h hw
    have hd0 : (decL s).2 = 0 := Classical.not_not.1 hd
    refine ⟨hd0, ?_⟩
    cases hf : fieldsT (.mk 40 (toks.map tokK)) (decL s).1 with
    | none => rw [hf] at h; exact absurd (show (4 : Int) = 0 from h) (by decide)
    | some l =>
      have hl : rfieldsL toks (decL s).1.kids' = l := by
        generalize (decL s).1 = x at *
        obtain ⟨xl, xb, xs⟩ := x
        rw [fieldsT] at hf
        split at hf
        · rw [if_neg (by decide)] at hf
          exact rfieldsL_eq ht hf
        · cases hf
      rw [hl]
      rw [hf] at h
      simp only at h
      split at h
      · assumption
      · exact absurd (show (4 : Int) = 0 from h) (by decide)
end Go.Proofs.Ytefmlbckbhlgdaa
namespace Go.Proofs.Ytefmlbckbhlgdaa
open Go.RowKit
set_option maxRecDepth 100000
theorem rfield_any (t : List UInt8) (ht : tokOk t) (x : It) (hx : x.kids'.length ≤ 100000) (v : Value) (w : World) (h : ItemIs w x v) :
    Calls Try.prog 61 #[.string (mkS t), v] w fun e w' => ∃ v', e = .returned v' ∧ FdAns (rfieldT t x) w v' w' := by
  obtain ⟨c, hc, rfl | rfl⟩ := ht
  · exact rfield_leaf _ c (by rw [bl_mk]; rfl) hc x v w h
  · obtain ⟨l, b, ks⟩ := x
    exact rfield_star _ c (by rw [bl_mk]; rfl) (by rw [bl_mk]; rfl) hc l b ks hx v w h
theorem sizes_len' : ∀ ks : List It, ks.length ≤ sizes ks
  | [] => by simp
  | x :: ks => by
    have := sizes_len' ks
    obtain ⟨l, b, k⟩ := x
    rw [sizes, It.size, List.length_cons]
    omega
theorem sizes_mem : ∀ {ks : List It} {y : It}, y ∈ ks → y.size ≤ sizes ks
  | x :: ks, y, h => by
    rw [sizes]
    rcases List.mem_cons.1 h with rfl | h
    · omega
    · have := sizes_mem h; omega
theorem kids'_len {l : Bool} {b : List UInt8} {ks : List It} {y : It} (h : (It.mk l b ks).size ≤ 100000) (hy : y ∈ ks) : y.kids'.length ≤ 100000 := by
  rw [It.size] at h
  have h1 := sizes_mem hy
  obtain ⟨l', b', ks'⟩ := y
  rw [It.size] at h1
  have := sizes_len' ks'
  show ks'.length ≤ 100000
  omega

/-- What the reference's Read answers. -/
def RdAns (r : List Fd × Int) (w : World) (e : Ending) (w' : World) : Prop :=
  ∃ (sl : Sl) (c : Int), e = .returned (.tuple #[slV sl, .int .i64 c]) ∧ Below w.heap.size w w' ∧ ((r.2 = 0 ∧ c = 0 ∧ RowT encFd (fun b => w.heap.size ≤ b) w' (slV sl) r.1) ∨ (r.2 ≠ 0 ∧ c ≠ 0))

set_option maxHeartbeats 8000000 in
theorem rfread_any (fs : ByteArray) (toks : List (List UInt8)) (h : FlatF fs toks) (hk : kindsL (bl fs) = some (toks.map tokK)) (s : ByteArray) (hs : s.size ≤ 4100) (w : World) :
    Calls Try.prog 27 #[.string fs, .string s] w (RdAns (readF (bl fs) (bl s)) w) := by
  have KK := Lib.hid (rkinds_any fs toks h.eq h.ok h.size w)
  have KD := Lib.hid (fun W => rdecode_any s W hs)
  by_cases hd : (decL (bl s)).2 = 0
  · have HRY : Hid (writeF (bl fs) (rfieldsL toks (decL (bl s)).1.kids') = (bl s, 0) → readF (bl fs) (bl s) = (rfieldsL toks (decL (bl s)).1.kids', 0)) := Lib.hid (readF_ok h.ok)
    have HRN : Hid ((readF (bl fs) (bl s)).2 = 0 → writeF (bl fs) (rfieldsL toks (decL (bl s)).1.kids') = (bl s, 0)) := Lib.hid (fun e => (readF_only h.ok hk e).2)
    have hen := decL_ok hd
    have hsz : (decL (bl s)).1.size ≤ 100000 := by
      have := (enc_ok (x := (decL (bl s)).1) (by rw [hen])).2.2.2.1
      omega
    generalize readF (bl fs) (bl s) = r at *
    generalize decL (bl s) = d at *
    obtain ⟨x, e0⟩ := d
    obtain ⟨l, b, ks⟩ := x
    simp only at hd
    subst hd
    replace HRY : Hid (writeF (bl fs) (rfieldsL toks ks) = (bl s, 0) → r = (rfieldsL toks ks, 0)) := HRY
    replace HRN : Hid (r.2 = 0 → writeF (bl fs) (rfieldsL toks ks) = (bl s, 0)) := HRN
    have KF : Hid (∀ (i : Nat) (y : It), ks[i]? = some y → ∀ (v : Value) (W : World), ItemIs W y v → Calls Try.prog 61 #[.string (mkS (rtok toks i)), v] W fun e w' => ∃ v', e = .returned v' ∧ FdAns (rfieldT (rtok toks i) y) W v' w') := Lib.hid (fun i y hy v W hv => rfield_any _ (rtok_ok h.ok i) y (kids'_len hsz (List.mem_of_getElem? hy)) v W hv)
    have HF : Hid (∀ (i : Nat) (y : It), ks[i]? = some y → (rfieldsL toks ks).take i ++ [rfieldT (rtok toks i) y] = (rfieldsL toks ks).take (i + 1)) := Lib.hid (fun i y hy => by rw [List.take_add_one, rfieldsL_get toks hy]; simp)
    have HFL : Hid ((rfieldsL toks ks).length = ks.length) := Lib.hid (rfieldsL_len toks ks)
    have KW : Hid (∀ (v : Value) (W : World), RowT encFd (fun _ => True) W v (rfieldsL toks ks) → Calls Try.prog 62 #[.string fs, v] W fun e w' => e = .returned (.tuple #[.string (mkS (writeF (bl fs) (rfieldsL toks ks)).1), .int .i64 (writeF (bl fs) (rfieldsL toks ks)).2]) ∧ Below W.heap.size W w') := Lib.hid (fun v W hv => rfwrite_any fs toks h hk v _ W (rfieldsL_ok h.ok ks) hv)
    have HKL : Hid (ks.length ≤ 100000) := Lib.hid (by have := sizes_len' ks; rw [It.size] at hsz; omega)
    have htl : toks.length ≤ 1000 := by
      have h1 := h.eq
      have h2 := h.size
      have h3 : toks.length ≤ toks.flatten.length := by
        have : ∀ ts : List (List UInt8), (∀ t ∈ ts, tokOk t) → ts.length ≤ ts.flatten.length := by
          intro ts
          induction ts with
          | nil => intro _; simp
          | cons t ts ih =>
            intro ho
            have a := (ho t List.mem_cons_self).pos
            have b := ih (fun u hu => ho u (List.mem_cons_of_mem _ hu))
            simp only [List.flatten_cons, List.length_append, List.length_cons]
            omega
        exact this toks h.ok
      rw [← h1, bl_length] at h3
      omega
    have HTK : Hid (∀ (i : Nat) (t : List UInt8), toks[i]? = some t → rtok toks i = t) := Lib.hid (fun i t ht => by unfold rtok; rw [ht]; rfl)
    have HTN : Hid (∀ (i : Nat), toks.length ≤ i → mkS (rtok toks i) = ⟨#[98]⟩) := Lib.hid (fun i hi => by unfold rtok; rw [List.getElem?_eq_none hi]; rfl)
    generalize hFE : rfieldsL toks ks = F at *
    clear hFE
    generalize writeF (bl fs) F = r2 at *
    obtain ⟨tb, te⟩ := r2
    simp only at KW HRY HRN
    clear h hk hs hen hsz
    go_enter Try.func27, Try.ntmps27
    go_upto_region 7 with (first
      | (go_at_call 59; refine KK.out.mono ?_; rintro e w1 ⟨kv, rfl, ho, hb⟩; have HB := Lib.hid hb; have HO := Lib.hid (OwnE.row _ ho); clear hb ho)
      | (go_at_call 60; refine (KD.out _).mono ?_; rintro e w2 ⟨v, rfl, hv, hb⟩; have hi := ItemP.is _ _ hv; obtain ⟨kv2, rfl, -, hk2⟩ := itemIs_iff.1 hi; obtain ⟨p, cap, rfl, g1, g2, hget⟩ := hk2.parts; have HG := Lib.hid hget; replace HO := Lib.hid (RowE.below encS HO.out hb (Nat.le_refl _)); replace HB := Lib.hid (HB.out.trans (hb.mono HB.out.size)); clear hb hv hi hk2 hget))
    have R8 := Lib.hid (RowAt.new w2 #[.bool l, .string (mkS b), .slice p ks.length cap] 98)
    have HBA := bel1 w2 (.cells #[.bool l, .string (mkS b), .slice p ks.length cap] 98)
    replace HO := Lib.hid (RowE.below encS HO.out HBA (Nat.le_refl _))
    have HG2 : Hid (∀ (W : World), Below w2.heap.size w2 W → ∀ (i : Nat) (k : It), ks[i]? = some k → ∃ a l' b' p' n' c', p = some a ∧ W.cell? (a.add (i * 3)) = some (.bool l') ∧ W.cell? ⟨(a.add (i * 3)).block, (a.add (i * 3)).off + 1, none⟩ = some (.string b') ∧ W.cell? ⟨(a.add (i * 3)).block, (a.add (i * 3)).off + 2, none⟩ = some (.slice p' n' c') ∧ ItemIs W k (.agg #[.bool l', .string b', .slice p' n' c'])) := Lib.hid (fun W hW i k hk => by
      obtain ⟨a, l', b', p', n', c', rfl, r0, r1, r2, hyi⟩ := HG.out i k hk
      have mv : ∀ {q : Addr} {u : Value}, w2.cell? q = some u → W.cell? q = some u := fun h => by rw [hW.cell (block_lt_of_cell h)]; exact h
      rw [← Go.Deep.add_add] at r1 r2
      exact ⟨a, l', b', p', n', c', rfl, mv r0, mv r1, mv r2, ItemIs.below hW (Nat.le_refl _) k _ hyi⟩)
    have HB3 := Lib.hid (HBA.mono (Nat.le_refl w2.heap.size))
    replace HB := Lib.hid (HB.out.trans (HBA.mono HB.out.size))
    clear HBA HG KK KD
    have hz2 : w2.heap.size ≤ (w2.alloc (.cells #[.bool l, .string (mkS b), .slice p ks.length cap] 98)).heap.size := HB3.out.size
    have HZ2 := Lib.hid hz2
    clear hz2
    generalize w2.alloc (.cells #[.bool l, .string (mkS b), .slice p ks.length cap] 98) = w3 at *
    generalize w2.heap.size = k8 at *
    obtain ⟨pk, ck, rfl, k1, k2⟩ := RowE.shape _ HO.out
    rw [List.length_map] at k1 HO
    rw [List.length_map]
    unfold maxLen at k2
    go_upto_region 8 with (fail)
    replace R8 := Lib.hid (R8.out.alloc (.cells #[] 64))
    have O0 : Hid (OwnT encFd 64 (fun b => w3.heap.size ≤ b) (w3.alloc (.cells #[] 64)) w3.heap.size (.slice (some ⟨w3.heap.size, 0, none⟩) 0 0) (F.take 0)) := Lib.hid (OwnT.start (Nat.le_refl _))
    have HBW := Lib.hid (bel1 w3 (.cells #[] 64))
    generalize w3.alloc (.cells #[] 64) = W4 at *
    obtain ⟨y0, y1, y2, yf0, yf1, yf2⟩ := R8.out.c3
    go_upto_region 9 with (fail)
    clear y0 y1 y2 yf0 yf1 yf2 R8
    go_loopw [10, 35] (fun s10 s35 wr => ∃ (i : Nat) (po : Option Addr) (co : Nat), i ≤ ks.length ∧ s35 = .int .i64 i ∧ s10 = .slice po i co ∧ Hid (OwnT encFd 64 (fun b => w3.heap.size ≤ b) wr w3.heap.size (.slice po i co) (F.take i)) ∧ Hid (Below w3.heap.size w3 wr)) (fun _ s _ => ks.length - (intOf s).toNat)
    case atStart => exact ⟨0, _, _, Nat.zero_le _, rfl, rfl, O0, HBW⟩
    case round =>
      clear O0 HBW
      obtain ⟨i, po, co, hi, rfl, rfl, ho, hb⟩ := hrel
      have O := Lib.hid ho.out
      have HBW := Lib.hid hb.out
      clear ho hb
      by_cases hlt : i < ks.length
      · obtain ⟨y, hy⟩ : ∃ y, ks[i]? = some y := ⟨_, List.getElem?_eq_getElem hlt⟩
        obtain ⟨a, l', b', p', n', c', rfl, r0, r1, r2, hyi⟩ := HG2.out wr (HB3.out.trans (HBW.out.mono HZ2.out)) i y hy
        have KC := KF.out i y hy
        have HTK1 := Lib.hid (HF.out i y hy)
        have HTL : Hid ((F.take i).length = i) := Lib.hid (by rw [List.length_take, HFL.out]; omega)
        have HN := Lib.hid (HTN.out i)
        have HTT := Lib.hid (HTK.out i)
        generalize rfieldT (rtok toks i) y = fy at *
        generalize rtok toks i = tk at *
        have HYI := Lib.hid hyi
        clear hyi hy
        go_upto_region 11 with (fail)
        have R12 := Lib.hid (RowAt.new wr #[.bool l', .string b', .slice p' n' c'] 98)
        have HBA := bel1 wr (.cells #[.bool l', .string b', .slice p' n' c'] 98)
        have HOS := Lib.hid (RowE.below encS HO.out (HBW.out.trans (HBA.mono HBW.out.size)) (Nat.le_refl _))
        replace O := Lib.hid (O.out.below HBA (Nat.le_refl _))
        replace HYI := Lib.hid (ItemIs.below HBA (Nat.le_refl _) y _ HYI.out)
        replace HBW := Lib.hid (HBW.out.trans (HBA.mono HBW.out.size))
        clear r0 r1 r2 HBA
        generalize wr.alloc (.cells #[.bool l', .string b', .slice p' n' c'] 98) = wa at *
        generalize wr.heap.size = k9 at *
        have KC2 := Lib.hid (KC _ wa HYI.out)
        clear KC
        obtain ⟨z0, z1, z2, zf0, zf1, zf2⟩ := R12.out.c3
        go_upto_if 43 with (fail)
        go_cut [13] (fun t wr => t = .string (mkS tk) ∧ wa = wr)
        case first =>
          by_cases hit : i < toks.length
          · obtain ⟨t, ht⟩ : ∃ t, toks[i]? = some t := ⟨_, List.getElem?_eq_getElem hit⟩
            have HA := HOS.out.atS.2.2.2
            obtain ⟨ad, rfl, c0⟩ := HA i (mkS t) (by rw [List.getElem?_map, ht]; rfl)
            have hte := HTT.out t ht
            subst hte
            clear HA ht
            go_wp2
            go_meet
            case rel => exact ⟨rfl, rfl⟩
          · have hne := Lib.hid (HN.out (by omega))
            go_wp2
            go_meet
            case rel => exact ⟨by rw [hne.out], rfl⟩
        case rest =>
        obtain ⟨rfl, rfl⟩ := hcut
        go_upto_region 15 with (first
          | (go_at_call 61; refine KC2.out.mono ?_; rintro e w6 ⟨v, rfl, sl, rfl, hb, hrow⟩; obtain ⟨ps, ns, cs⟩ := sl; obtain ⟨⟨fn, fb⟩, fk⟩ := fy; have HY := Lib.hid ((OwnT.fresh (t := .mk (fn, fb) fk) (s := (ps, ns, cs)) O.out (Nat.le_refl _) (fun b hb => Nat.le_trans HBW.out.size hb) (show RowT encFd (fun b => wa.heap.size ≤ b) w6 (.slice ps ns cs) fk from hrow)).move (bel1 w6 (.cells #[.int .u64 (fn : Int), .string (mkS fb), .slice ps ns cs] 64)) (Nat.le_refl _)); replace O := Lib.hid (O.out.below hb (Nat.le_refl _)); replace O := Lib.hid (O.out.below (bel1 w6 (.cells #[.int .u64 (fn : Int), .string (mkS fb), .slice ps ns cs] 64)) (Nat.le_refl _)); replace HBW := Lib.hid (HBW.out.trans (hb.mono HBW.out.size)); replace HBW := Lib.hid (HBW.out.trans ((bel1 w6 (.cells #[.int .u64 (fn : Int), .string (mkS fb), .slice ps ns cs] 64)).mono HBW.out.size)); have R11 := Lib.hid (RowAt.new w6 #[.int .u64 (fn : Int), .string (mkS fb), .slice ps ns cs] 64); clear hb hrow; clear z0 z1 z2 zf0 zf1 zf2)
          | (at_builtin; refine wpList_append_tree (E := encFd) (A := fun b => w3.heap.size ≤ b) Try.underlying60 info_field rfl (by omega) rfl _ _ rfl w3.heap.size _ (F.take i) rfl O.out ⟨w6.heap.size, 0, none⟩ (.mk (fn, fb) fk) ((fn, fb), ps, ns, cs) rfl (lit_cells (E := encFd) R11.out rfl) HY.out (by have := HTL.out; have := HKL.out; omega) HBW.out.size ?_))
        intro v' w' ho hg hbb hz
        obtain ⟨po', co', rfl, _, _⟩ := OwnT.shape ho
        have HN1 : (F.take i ++ [Tr.mk (fn, fb) fk]).length = i + 1 := by rw [List.length_append, HTL.out]; rfl
        rw [HN1]
        rw [HN1, HTK1.out] at ho
        have hbk := hbb _ HBW.out
        replace HBW := Lib.hid hbk
        replace O := Lib.hid ho
        clear ho hg hbb hz hbk HN1 HY R11
        go_wp2
        exact ⟨⟨i + 1, po', co', by omega, by simp, rfl, O, HBW⟩, by simp [intOf]; omega⟩
      · obtain rfl : i = ks.length := by omega
        have HI := Lib.hid (show RowT encFd (fun b => w3.heap.size ≤ b) wr (.slice po ks.length co) F from by
          have := O.out.row (fun b hb => hb)
          rwa [List.take_of_length_le (by have := HFL.out; omega)] at this)
        have KC := Lib.hid (KW.out _ wr (RowT.weaken (fun _ _ => trivial) HI.out))
        have HLE : Hid (w.heap.size ≤ w3.heap.size) := Lib.hid HB.out.size
        replace HB := Lib.hid (HB.out.trans (HBW.out.mono HB.out.size))
        clear O
        by_cases h1 : te = 0
        · subst h1
          by_cases h2 : tb = bl s
          · subst h2
            have hr := Lib.hid (HRY.out rfl)
            rw [mkS_bl] at KC
            go_wp2_with (go_at_call 62; refine KC.out.mono ?_; rintro e w5 ⟨rfl, hb⟩; replace HI := Lib.hid (RowT.below HI.out hb (Nat.le_refl _)); replace HB := Lib.hid (HB.out.trans (hb.mono HB.out.size)); clear hb)
            refine bodyPost_ret (v := .tuple #[.slice po ks.length co, .int .i64 0]) (by simp [results, Try.results27, go_sem]) rfl ?_
            rw [hr.out]
            exact ⟨(po, ks.length, co), 0, rfl, HB.out, .inl ⟨rfl, rfl, HI.out.weaken (fun b hb => Nat.le_trans HLE.out hb)⟩⟩
          · have q2 : ((mkS tb).toList == s.toList) = false := beq_eq_false_iff_ne.2 (fun h => h2 (by rw [toList_bl, toList_bl, bl_mk] at h; exact h))
            have hr : Hid (r.2 ≠ 0) := Lib.hid (fun e => h2 (by have := HRN.out e; injection this))
            clear h2
            go_wp2_with (go_at_call 62; refine KC.out.mono ?_; rintro e w5 ⟨rfl, hb⟩; replace HB := Lib.hid (HB.out.trans (hb.mono HB.out.size)); clear hb)
            refine bodyPost_ret (v := .tuple #[.slice none 0 0, .int .i64 4]) (by simp [results, Try.results27, go_sem]) rfl ?_
            exact ⟨(none, 0, 0), 4, rfl, HB.out, .inr ⟨hr.out, by decide⟩⟩
        · have q1 : (te != 0) = true := by simp [h1]
          have hr : Hid (r.2 ≠ 0) := Lib.hid (fun e => h1 (by have := HRN.out e; injection this))
          clear h1
          go_wp2_with (go_at_call 62; refine KC.out.mono ?_; rintro e w5 ⟨rfl, hb⟩; replace HB := Lib.hid (HB.out.trans (hb.mono HB.out.size)); clear hb)
          refine bodyPost_ret (v := .tuple #[.slice none 0 0, .int .i64 4]) (by simp [results, Try.results27, go_sem]) rfl ?_
          exact ⟨(none, 0, 0), 4, rfl, HB.out, .inr ⟨hr.out, by decide⟩⟩
  · have hr : Hid ((readF (bl fs) (bl s)).2 ≠ 0) := Lib.hid (fun e => hd (readF_only h.ok hk e).1)
    generalize readF (bl fs) (bl s) = r at *
    generalize decL (bl s) = d at *
    obtain ⟨x, e0⟩ := d
    simp only at hd
    have q : (e0 != 0) = true := by simpa using hd
    have HE := Lib.hid hd
    clear h hk hs hd
    go_enter Try.func27, Try.ntmps27
    go_wp2_with (first
      | (go_at_call 59; refine KK.out.mono ?_; rintro e w1 ⟨kv, rfl, ho, hb⟩; have HB := Lib.hid hb; clear hb ho)
      | (go_at_call 60; refine (KD.out _).mono ?_; rintro e w2 ⟨v, rfl, hv, hb⟩; obtain ⟨⟨yl, yb, yp, yn, yc⟩, rfl⟩ := hv.triple; simp only [IV.val, IV.kids] at hv ⊢; replace HB := Lib.hid (HB.out.trans (hb.mono HB.out.size)); clear hb hv))
    refine bodyPost_ret (v := .tuple #[.slice none 0 0, .int .i64 e0]) (by simp [results, Try.results27, go_sem]) rfl ?_
    exact ⟨(none, 0, 0), e0, rfl, HB.out.alloc HB.out.size _, .inr ⟨hr.out, HE.out⟩⟩
end Go.Proofs.Ytefmlbckbhlgdaa
namespace Go.Proofs.Ytefmlbckbhlgdaa
open Go.RowKit Go.Shelf
set_option maxRecDepth 100000
theorem flatI : ∀ l : List Int, flat encI l = l.map (.int .i64 ·)
  | [] => rfl
  | x :: l => by rw [flat, flatI l]; rfl
theorem OI.set {w : World} {base g n c : Nat} {l : List Int} (h : OI w base (.slice (some ⟨g, 0, none⟩) n c) l) (hn : l.length = n) (j : Nat) (x : Int) : OI (w.setCell ⟨g, j, none⟩ (.int .i64 x)) base (.slice (some ⟨g, 0, none⟩) n c) (l.set j x) := by
  subst hn
  unfold OI OwnE at *
  rw [List.length_set]
  have := (World.ownsRow.stored h j (.int .i64 x)).1
  rw [flatI] at this ⊢
  rw [List.map_set]
  exact this
theorem OI.at {w : World} {base g n c : Nat} {l : List Int} (h : OI w base (.slice (some ⟨g, 0, none⟩) n c) l) (hn : l.length = n) {j : Nat} {x : Int} (hj : l[j]? = some x) : w.cell? ⟨g, j, none⟩ = some (.int .i64 x) ∧ w.frozen? ⟨g, j, none⟩ = false := by
  unfold OI OwnE at h
  rw [hn] at h
  have hlt := (List.getElem?_eq_some_iff.1 hj).1
  refine ⟨?_, World.ownsRow.frozenAt h j⟩
  rw [World.ownsRow.cellAt h j (by show j < n * 1; omega), flatI, List.getElem?_map, hj]
  rfl
theorem set_mid {α : Type} (p : List α) (c r : α) (Z : List α) : (p ++ c :: Z).set p.length r = p ++ r :: Z := by
  rw [List.set_append_right _ _ (Nat.le_refl _), Nat.sub_self]; rfl
theorem set_mid1 {α : Type} (p : List α) (c d r : α) (Z : List α) : (p ++ c :: d :: Z).set (p.length + 1) r = p ++ c :: r :: Z := by
  rw [List.set_append_right _ _ (by omega), show p.length + 1 - p.length = 1 by omega]; rfl
theorem nval_zeros : ∀ n : Nat, nval (List.replicate n 0) = 0
  | 0 => rfl
  | n + 1 => by rw [List.replicate_succ, nval, nval_zeros n]; rfl

set_option maxHeartbeats 4000000 in
theorem times_num (va vb : Value) (a : List Int) (w : World) (hA : RI w va a) (hB : RI w vb [256]) (da : DigOk a) (la : a.length ≤ 1000000) :
    Calls Try.prog 113 #[va, vb] w fun e w' => ∃ v l, e = .returned v ∧ RI w' v l ∧ DigOk l ∧ nval l = 256 * nval a ∧ l.length = a.length + 2 ∧ Below w.heap.size w w' := by
  have KB0 : Hid (∀ W, Below w.heap.size w W → Calls Try.prog 156 #[vb, .int .i64 0] W fun e w' => e = .returned (.int .i64 256) ∧ W = w') := Lib.hid (fun W hb => digit_any vb [256] 0 W (RI.below hB hb (Nat.le_refl _)))
  have KB1 : Hid (∀ W, Below w.heap.size w W → Calls Try.prog 156 #[vb, .int .i64 1] W fun e w' => e = .returned (.int .i64 0) ∧ W = w') := Lib.hid (fun W hb => digit_any vb [256] 1 W (RI.below hB hb (Nat.le_refl _)))
  obtain ⟨pa, ca, rfl, h1, h2⟩ := RowE.shape encI hA
  obtain ⟨pb, cb, rfl, h3, h4⟩ := RowE.shape encI hB
  have RA := Lib.hid (fun i x (hx : a[i]? = some x) => RI.at hA i x hx)
  have DA := Lib.hid (fun (i : Nat) x (hx : a[i]? = some x) => da x (List.mem_of_getElem? hx))
  have HR0 : Hid (∀ R : List Int, nval R = 0 + 256 * nval (a.drop 0) → nval ([] ++ R) = 256 * nval a) := Lib.hid (fun R h => by simpa using h)
  have HRS : Hid (∀ (i : Nat) (x : Int), a[i]? = some x → nval (a.drop i) = x + 65536 * nval (a.drop (i + 1))) := Lib.hid (fun i x hx => by
    have := nval_drop a i
    rw [dg_in (List.getElem?_eq_some_iff.1 hx).1, (List.getElem?_eq_some_iff.1 hx).2] at this
    exact this)
  have HRE : Hid (nval (a.drop a.length) = 0) := Lib.hid (by rw [List.drop_length]; rfl)
  have HD0 : Hid (DigOk []) := Lib.hid (fun x h => by cases h)
  have HAG : Hid (∀ i, i < a.length → ∃ x, a[i]? = some x) := Lib.hid (fun i hi => ⟨_, List.getElem?_eq_getElem hi⟩)
  generalize hm : a.length = m at *
  generalize hnv : nval a = NV at *
  have hl1 : ([256] : List Int).length = 1 := rfl
  rw [hl1] at KB0 KB1 h3 ⊢
  clear hA hB da hm hnv hl1
  obtain ⟨n, hn⟩ : ∃ n, n = m + 2 := ⟨_, rfl⟩
  have e1 : (m : Int) + 1 + 1 = n := by omega
  have HN := Lib.hid hn
  have hnl : n ≤ 1000002 := by omega
  clear hn
  obtain ⟨i0, hi, hz0, hz1, hz2⟩ := info_parts info_int
  go_enter Try.func113, Try.ntmps113
  go_upto_region 2 with (at_make; (refine wpList_make_full _ rfl _ _ 168 rfl w.heap.size 3 i0 (.int .i64 0) 1 Try.underlying168 hi hz0 hz1 .i64 .i64 _ _ n rfl rfl rfl rfl (by rw [hz2]; omega) (by unfold maxLen; omega) (Nat.le_refl _) ?_); intro w1 hown hg)
  have O0 : Hid (OI w1 w.heap.size (.slice (some ⟨w.heap.size, 0, none⟩) n n) (List.replicate n 0)) := Lib.hid (by
    unfold OI OwnE
    rw [flatI, List.map_replicate, List.length_replicate, ← toList_madeCells_one]
    rw [Nat.mul_one] at hown
    exact hown)
  have HB0 := Lib.hid ((Below.refl w.heap.size w).grown hg (Nat.le_refl _) (fun k hk => by cases hk))
  clear hown hg hz0 hz1 hz2 hi i0
  go_upto_region 3 with (fail)
  go_loopw [19] (fun s19 wr => ∃ (i : Nat) (pre : List Int) (c : Int), i ≤ m ∧ s19 = .int .i64 i ∧ pre.length = i ∧ 0 ≤ c ∧ c ≤ 256 ∧ Hid (OI wr w.heap.size (.slice (some ⟨w.heap.size, 0, none⟩) n n) (pre ++ c :: List.replicate (m + 1 - i) 0)) ∧ Hid (DigOk pre) ∧ Hid (∀ R : List Int, nval R = c + 256 * nval (a.drop i) → nval (pre ++ R) = 256 * NV) ∧ Hid (Below w.heap.size w wr)) (fun s _ => m - (intOf s).toNat)
  case atStart => exact ⟨0, [], 0, Nat.zero_le _, rfl, rfl, by omega, by omega, Lib.hid (by have := O0.out; rw [show List.replicate n (0 : Int) = 0 :: List.replicate (m + 1) 0 from by rw [HN.out, List.replicate_succ]] at this; exact this), HD0, HR0, HB0⟩
  case round =>
    clear O0 HB0 HD0 HR0
    obtain ⟨i, pre, c, him, rfl, hpl, hc0, hc1, ho, hd, hr, hb⟩ := hrel
    have O := Lib.hid ho.out
    have HD := Lib.hid hd.out
    have HR := Lib.hid hr.out
    have HB := Lib.hid hb.out
    clear ho hd hr hb
    by_cases hlt : i < m
    · obtain ⟨x, hx⟩ := HAG.out i hlt
      obtain ⟨ad, rfl, hcx⟩ := RA.out i x hx
      have hx2 := DA.out i x hx
      have hrs := HRS.out i x hx
      have q1 : IntKind.i64.wrap (x * 256) = x * 256 := by rw [IntKind.wrap_i64]; omega
      have q2 : IntKind.i64.wrap (c + x * 256) = c + x * 256 := by rw [IntKind.wrap_i64]; omega
      have q3 : (c + x * 256).tmod 65536 = (c + x * 256) % 65536 := Int.tmod_eq_emod_of_nonneg (by omega)
      have q4 : (c + x * 256).tdiv 65536 = (c + x * 256) / 65536 := Int.tdiv_eq_ediv_of_nonneg (by omega)
      have hq : 0 ≤ (c + x * 256) / 65536 ∧ (c + x * 256) / 65536 ≤ 256 := by omega
      have hrm : 0 ≤ (c + x * 256) % 65536 ∧ (c + x * 256) % 65536 < 65536 := by omega
      have hsum : (c + x * 256) % 65536 + 65536 * ((c + x * 256) / 65536) = c + x * 256 := by omega
      have HR2 : Hid (∀ R : List Int, nval R = (c + x * 256) / 65536 + 256 * nval (a.drop (i + 1)) → nval ((pre ++ [(c + x * 256) % 65536]) ++ R) = 256 * NV) := Lib.hid (fun R h => by
        rw [List.append_assoc]
        refine HR.out _ ?_
        rw [List.singleton_append, nval, hrs]
        omega)
      have HD2 : Hid (DigOk (pre ++ [(c + x * 256) % 65536])) := Lib.hid (fun z hz => by
        rcases List.mem_append.1 hz with hz | hz
        · exact HD.out z hz
        · rw [List.mem_singleton] at hz
          subst hz
          exact hrm)
      generalize (c + x * 256) % 65536 = r at *
      generalize (c + x * 256) / 65536 = q at *
      have q5 : q.tmod 65536 = q := by rw [Int.tmod_eq_emod_of_nonneg hq.1]; omega
      have q6 : q.tdiv 65536 = 0 := by rw [Int.tdiv_eq_ediv_of_nonneg hq.1]; omega
      have q7 : IntKind.i64.wrap q = q := by rw [IntKind.wrap_i64]; omega
      have hz : m + 1 - i = (m - i) + 1 := by omega
      have hz1 : m - i = (m + 1 - (i + 1)) := by omega
      rw [hz, List.replicate_succ, hz1] at O
      have hin : (pre ++ c :: 0 :: List.replicate (m + 1 - (i + 1)) (0 : Int)).length = n := by
        have := HN.out
        simp only [List.length_append, List.length_cons, List.length_replicate]; omega
      have hin2 : (pre ++ r :: 0 :: List.replicate (m + 1 - (i + 1)) (0 : Int)).length = n := by simpa using hin
      have HIN := Lib.hid hin
      have HIN2 := Lib.hid hin2
      have HZZ : Hid (∃ Z, Z = List.replicate (m + 1 - (i + 1)) (0 : Int)) := Lib.hid ⟨_, rfl⟩
      generalize hZ : List.replicate (m + 1 - (i + 1)) (0 : Int) = Z at *
      replace HZZ := Lib.hid hZ
      clear hZ
      have HX := Lib.hid hcx
      have HHQ := Lib.hid hq
      have HPL := Lib.hid hpl
      have hni : i + 1 < n := by have := HN.out; omega
      have s1 : IntKind.i64.wrap ((i : Int) + 0) = (i : Int) := by rw [IntKind.wrap_i64]; omega
      have s2 : IntKind.i64.wrap ((i : Int) + 1) = ((i + 1 : Nat) : Int) := by rw [IntKind.wrap_i64]; omega
      clear hx hcx hx2 hrs hrm hsum hin hin2 hz hz1 HR HD hpl
      go_upto_region 7 with (fail)
      go_loopw [7, 8] (fun s7 s8 wq => ∃ (k : Nat) (cr : Int) (out : List Int), s8 = .int .i64 k ∧ s7 = .int .i64 cr ∧ Hid (OI wq w.heap.size (.slice (some ⟨w.heap.size, 0, none⟩) n n) out) ∧ Hid (Below w.heap.size w wq) ∧ ((k = 0 ∧ cr = 0 ∧ out = pre ++ c :: 0 :: Z) ∨ (k = 1 ∧ q = cr ∧ out = pre ++ r :: 0 :: Z) ∨ (k = 2 ∧ cr = 0 ∧ out = pre ++ r :: q :: Z))) (fun _ s _ => (2 - intOf s).toNat)
      case atStart => exact ⟨0, 0, _, rfl, rfl, O, HB, .inl ⟨rfl, rfl, rfl⟩⟩
      case round =>
        clear O HB
        obtain ⟨k, cr, out, rfl, rfl, ho, hb, hcase⟩ := hrel
        have O := Lib.hid ho.out
        have HB := Lib.hid hb.out
        clear ho hb
        have rx : ∀ u : Later _, u.w.cell? (ad.add i) = some (.int .i64 x) := fun u => by rw [(HB.out.trans (u.below.mono HB.out.size)).cell (block_lt_of_cell HX.out)]; exact HX.out
        rcases hcase with ⟨rfl, rfl, rfl⟩ | ⟨rfl, rfl, rfl⟩ | ⟨rfl, rfl, rfl⟩
        · have hcc := OI.at O.out HIN.out (j := i) (x := c) (by rw [List.getElem?_append_right (by rw [HPL.out]; exact Nat.le_refl _), HPL.out, Nat.sub_self]; rfl)
          have rc : ∀ u : Later _, u.w.cell? ⟨w.heap.size, i, none⟩ = some (.int .i64 c) := fun u => by rw [u.below.cell (block_lt_of_cell hcc.1)]; exact hcc.1
          have rf : ∀ u : Later _, u.w.frozen? ⟨w.heap.size, i, none⟩ = false := fun u => (OI.at (O.out.below u.below (Nat.le_refl _)) HIN.out (j := i) (x := c) (by rw [List.getElem?_append_right (by rw [HPL.out]; exact Nat.le_refl _), HPL.out, Nat.sub_self]; rfl)).2
          clear hcc
          go_upto_region 9 with (fail)
          (refine region_later mix ?hB ?_; case hB => kernel_rfl); (repeat (first | go_big_quiet_step ((go_at_call 156; with_reducible exact Later.callSame (KB0.out _ (HB.out.trans ((Later.below _).mono HB.out.size))))) | quiet_step ((go_at_call 156; with_reducible exact Later.callSame (KB0.out _ (HB.out.trans ((Later.below _).mono HB.out.size))))))); (refine wpQuiet_nil ?_; rintro _ ⟨u, rfl⟩)
          have OU := Lib.hid (O.out.below u.below (Nat.le_refl _))
          replace HB := Lib.hid (HB.out.trans (u.below.mono HB.out.size))
          have hfu := rf u; have hcu := rc u
          clear rx rc rf O
          generalize u.w = wu at *
          have OV := Lib.hid (OI.set OU.out HIN.out i r)
          rw [show (pre ++ c :: 0 :: Z).set i r = pre ++ r :: 0 :: Z by rw [← HPL.out]; exact set_mid _ _ _ _] at OV
          replace HB := Lib.hid (HB.out.setCell (p := ⟨w.heap.size, i, none⟩) (Nat.le_refl _) (.int .i64 r))
          go_wp2
          go_roundw
          case rel => exact ⟨1, q, _, rfl, rfl, OV, HB, .inr (.inl ⟨rfl, rfl, rfl⟩)⟩
          case measure => simp [intOf]
        · by_cases hq0 : q = 0
          · have HX2 : Hid (pre ++ r :: 0 :: Z = (pre ++ [r]) ++ q :: List.replicate (m + 1 - (i + 1)) 0) := Lib.hid (by rw [HZZ.out, hq0, List.append_assoc]; rfl)
            have hqn : ¬ 0 < q := by omega
            rw [HX2.out] at O
            have HL : Hid ((pre ++ [r]).length = i + 1) := Lib.hid (by rw [List.length_append, HPL.out]; rfl)
            clear rx hq0
            go_wp2
            go_roundw
            case rel => exact ⟨i + 1, pre ++ [r], q, by omega, by simp, HL.out, hq.1, hq.2, O, HD2, HR2, HB⟩
            case measure => simp [intOf]; omega
          · have hqp : 0 < q := by omega
            have hcc := OI.at O.out HIN2.out (j := i + 1) (x := 0) (by rw [List.getElem?_append_right (by rw [HPL.out]; omega), HPL.out, show i + 1 - i = 1 by omega]; rfl)
            have rc : ∀ u : Later _, u.w.cell? ⟨w.heap.size, i + 1, none⟩ = some (.int .i64 0) := fun u => by rw [u.below.cell (block_lt_of_cell hcc.1)]; exact hcc.1
            have rf : ∀ u : Later _, u.w.frozen? ⟨w.heap.size, i + 1, none⟩ = false := fun u => (OI.at (O.out.below u.below (Nat.le_refl _)) HIN2.out (j := i + 1) (x := 0) (by rw [List.getElem?_append_right (by rw [HPL.out]; omega), HPL.out, show i + 1 - i = 1 by omega]; rfl)).2
            clear hcc hq0
            go_upto_region 9 with (fail)
            (refine region_later mix ?hB ?_; case hB => kernel_rfl); (repeat (first | go_big_quiet_step ((go_at_call 156; with_reducible exact Later.callSame (KB1.out _ (HB.out.trans ((Later.below _).mono HB.out.size))))) | quiet_step ((go_at_call 156; with_reducible exact Later.callSame (KB1.out _ (HB.out.trans ((Later.below _).mono HB.out.size))))))); (refine wpQuiet_nil ?_; rintro _ ⟨u, rfl⟩)
            have OU := Lib.hid (O.out.below u.below (Nat.le_refl _))
            replace HB := Lib.hid (HB.out.trans (u.below.mono HB.out.size))
            have hfu := rf u; have hcu := rc u
            clear rx rc rf O
            generalize u.w = wu at *
            have OV := Lib.hid (OI.set OU.out HIN2.out (i + 1) q)
            rw [show (pre ++ r :: 0 :: Z).set (i + 1) q = pre ++ r :: q :: Z by rw [← HPL.out]; exact set_mid1 _ _ _ _ _] at OV
            replace HB := Lib.hid (HB.out.setCell (p := ⟨w.heap.size, i + 1, none⟩) (Nat.le_refl _) (.int .i64 q))
            go_wp2
            go_roundw
            case rel => exact ⟨2, 0, _, rfl, rfl, OV, HB, .inr (.inr ⟨rfl, rfl, rfl⟩)⟩
            case measure => simp [intOf]
        · have HX2 : Hid (pre ++ r :: q :: Z = (pre ++ [r]) ++ q :: List.replicate (m + 1 - (i + 1)) 0) := Lib.hid (by rw [HZZ.out, List.append_assoc]; rfl)
          rw [HX2.out] at O
          have HL : Hid ((pre ++ [r]).length = i + 1) := Lib.hid (by rw [List.length_append, HPL.out]; rfl)
          clear rx
          go_wp2
          go_roundw
          case rel => exact ⟨i + 1, pre ++ [r], q, by omega, by simp, HL.out, hq.1, hq.2, O, HD2, HR2, HB⟩
          case measure => simp [intOf]; omega
    · obtain rfl : i = m := by omega
      have hv := Lib.hid (HR.out (c :: List.replicate (i + 1 - i) 0) (by rw [nval, nval_zeros, HRE.out]; omega))
      have HDF : Hid (DigOk (pre ++ c :: List.replicate (i + 1 - i) 0)) := Lib.hid (fun z hz => by
        rcases List.mem_append.1 hz with hz | hz
        · exact HD.out z hz
        · rcases List.mem_cons.1 hz with rfl | hz
          · omega
          · rw [List.eq_of_mem_replicate hz]; omega)
      go_wp2
      go_ret
      exact ⟨_, _, rfl, OwnE.row encI O.out, HDF.out, hv.out, by simp only [List.length_append, List.length_cons, List.length_replicate, hpl]; omega, HB.out⟩
end Go.Proofs.Ytefmlbckbhlgdaa
namespace Go.Proofs.Ytefmlbckbhlgdaa
open Go.RowKit Go.Shelf
set_option maxRecDepth 100000
/-- The words of a number of which the first 'i' bytes (the highest first) are in. -/
def pw (f : Nat → Nat) : Nat → Nat → Nat
  | 0, _ => 0
  | i + 1, q => if (31 - i) / 8 = q then pw f i q + f i * 2 ^ (8 * ((31 - i) % 8)) else pw f i q
def pU (f : Nat → Nat) (i : Nat) : U4 := ((pw f i 0 : Nat), (pw f i 1 : Nat), (pw f i 2 : Nat), (pw f i 3 : Nat))
def byF (s : ByteArray) (k : Nat) : Nat := ((bl s).getD k 0).toNat
/-- The number that 32 bytes are. -/
def fromU (s : ByteArray) : U4 := pU (byF s) 32

theorem byF_lt (s : ByteArray) (k : Nat) : byF s k < 256 := UInt8.toNat_lt _

theorem pw_dvd (f : Nat → Nat) : ∀ (i q : Nat), i + 8 * q ≤ 32 → 2 ^ (8 * (32 - 8 * q - i)) ∣ pw f i q
  | 0, _, _ => ⟨0, by simp [pw]⟩
  | i + 1, q, h => by
    have ih := pw_dvd f i q (by omega)
    have h2 : 2 ^ (8 * (32 - 8 * q - (i + 1))) ∣ pw f i q := Nat.dvd_trans (Nat.pow_dvd_pow 2 (by omega)) ih
    rw [pw]
    split
    · rename_i e
      refine Nat.dvd_add h2 (Nat.dvd_trans (Nat.pow_dvd_pow 2 (by omega)) (Nat.dvd_mul_left _ _))
    · exact h2
theorem pw_mono (f : Nat → Nat) (q : Nat) : ∀ {i j : Nat}, i ≤ j → pw f i q ≤ pw f j q := by
  intro i j h
  induction j with
  | zero => have : i = 0 := by omega
            subst this; exact Nat.le_refl _
  | succ j ih =>
    by_cases e : i = j + 1
    · subst e; exact Nat.le_refl _
    · refine Nat.le_trans (ih (by omega)) ?_
      rw [pw]
      split <;> omega
theorem pw_full (f : Nat → Nat) : pw f 32 0 = f 24 * 72057594037927936 + f 25 * 281474976710656 + f 26 * 1099511627776 + f 27 * 4294967296 + f 28 * 16777216 + f 29 * 65536 + f 30 * 256 + f 31 ∧
    pw f 32 1 = f 16 * 72057594037927936 + f 17 * 281474976710656 + f 18 * 1099511627776 + f 19 * 4294967296 + f 20 * 16777216 + f 21 * 65536 + f 22 * 256 + f 23 ∧
    pw f 32 2 = f 8 * 72057594037927936 + f 9 * 281474976710656 + f 10 * 1099511627776 + f 11 * 4294967296 + f 12 * 16777216 + f 13 * 65536 + f 14 * 256 + f 15 ∧
    pw f 32 3 = f 0 * 72057594037927936 + f 1 * 281474976710656 + f 2 * 1099511627776 + f 3 * 4294967296 + f 4 * 16777216 + f 5 * 65536 + f 6 * 256 + f 7 := by
  refine ⟨?_, ?_, ?_, ?_⟩ <;> simp [pw]
theorem pw_lt (f : Nat → Nat) (hf : ∀ k, f k < 256) {i q : Nat} (hi : i ≤ 32) (hq : q < 4) : pw f i q < 18446744073709551616 := by
  refine Nat.lt_of_le_of_lt (pw_mono f q hi) ?_
  obtain ⟨h0, h1, h2, h3⟩ := pw_full f
  have : q = 0 ∨ q = 1 ∨ q = 2 ∨ q = 3 := by omega
  rcases this with rfl | rfl | rfl | rfl
  · rw [h0]
    have := hf 24; have := hf 25; have := hf 26; have := hf 27; have := hf 28; have := hf 29; have := hf 30; have := hf 31
    omega
  · rw [h1]
    have := hf 16; have := hf 17; have := hf 18; have := hf 19; have := hf 20; have := hf 21; have := hf 22; have := hf 23
    omega
  · rw [h2]
    have := hf 8; have := hf 9; have := hf 10; have := hf 11; have := hf 12; have := hf 13; have := hf 14; have := hf 15
    omega
  · rw [h3]
    have := hf 0; have := hf 1; have := hf 2; have := hf 3; have := hf 4; have := hf 5; have := hf 6; have := hf 7
    omega
theorem pU_ok (f : Nat → Nat) (hf : ∀ k, f k < 256) {i : Nat} (hi : i ≤ 32) : (pU f i).ok := by
  have h0 := pw_lt f hf hi (show 0 < 4 by omega)
  have h1 := pw_lt f hf hi (show 1 < 4 by omega)
  have h2 := pw_lt f hf hi (show 2 < 4 by omega)
  have h3 := pw_lt f hf hi (show 3 < 4 by omega)
  refine ⟨⟨?_, ?_⟩, ⟨?_, ?_⟩, ⟨?_, ?_⟩, ⟨?_, ?_⟩⟩ <;> (simp only [pU]; omega)
theorem fromU_ok (s : ByteArray) : (fromU s).ok := pU_ok _ (byF_lt s) (Nat.le_refl _)
/-- A byte more is laid into its word. -/
theorem pw_or (f : Nat → Nat) (hf : ∀ k, f k < 256) {i : Nat} (hi : i < 32) : Go.bits .or .u64 (pw f i ((31 - i) / 8) : Int) ((f i * 2 ^ (8 * ((31 - i) % 8)) : Nat) : Int) = (pw f (i + 1) ((31 - i) / 8) : Int) := by
  obtain ⟨c, hc⟩ := pw_dvd f i ((31 - i) / 8) (by omega)
  have hlt := pw_lt f hf (i := i) (q := (31 - i) / 8) (by omega) (by omega)
  have hl2 := pw_lt f hf (i := i + 1) (q := (31 - i) / 8) (by omega) (by omega)
  have e2 : pw f (i + 1) ((31 - i) / 8) = pw f i ((31 - i) / 8) + f i * 2 ^ (8 * ((31 - i) % 8)) := by rw [pw, if_pos rfl]
  rw [bits_or_u64_nat _ _ hlt (by omega), e2, hc]
  have e3 : 8 * (32 - 8 * ((31 - i) / 8) - i) = 8 * ((31 - i) % 8) + 8 := by omega
  rw [e3]
  have hb : f i * 2 ^ (8 * ((31 - i) % 8)) < 2 ^ (8 * ((31 - i) % 8) + 8) := by
    rw [Nat.pow_add, Nat.mul_comm]
    exact Nat.mul_lt_mul_of_pos_left (hf i) (Nat.two_pow_pos _)
  have := Nat.shiftLeft_add_eq_or_of_lt hb c
  rw [Nat.shiftLeft_eq, Nat.mul_comm] at this
  rw [← this]
theorem pw_wrap (f : Nat → Nat) (hf : ∀ k, f k < 256) {i : Nat} (hi : i < 32) : Go.bits .or .u64 (pw f i ((31 - i) / 8) : Int) (IntKind.u64.wrap (IntKind.u64.wrap (f i : Int) * 2 ^ (8 * ((31 - i) % 8)))) = (pw f (i + 1) ((31 - i) / 8) : Int) := by
  have h1 : IntKind.u64.wrap (f i : Int) = (f i : Int) := by
    have := hf i
    rw [IntKind.wrap_u64]; omega
  have hl2 := pw_lt f hf (i := i + 1) (q := (31 - i) / 8) (by omega) (by omega)
  have e2 : pw f (i + 1) ((31 - i) / 8) = pw f i ((31 - i) / 8) + f i * 2 ^ (8 * ((31 - i) % 8)) := by rw [pw, if_pos rfl]
  have e3 : (f i : Int) * 2 ^ (8 * ((31 - i) % 8)) = ((f i * 2 ^ (8 * ((31 - i) % 8)) : Nat) : Int) := by push_cast; rfl
  have h2 : IntKind.u64.wrap ((f i * 2 ^ (8 * ((31 - i) % 8)) : Nat) : Int) = ((f i * 2 ^ (8 * ((31 - i) % 8)) : Nat) : Int) := by
    rw [e2] at hl2
    generalize f i * 2 ^ (8 * ((31 - i) % 8)) = z at *
    rw [IntKind.wrap_u64]; omega
  rw [h1, e3, h2]
  exact pw_or f hf hi
theorem pU_set (f : Nat → Nat) {i : Nat} (hi : i < 32) : (u4c (pU f i)).setIfInBounds ((31 - i) / 8) (.int .u64 (pw f (i + 1) ((31 - i) / 8))) = u4c (pU f (i + 1)) := by
  have hq : (31 - i) / 8 = 0 ∨ (31 - i) / 8 = 1 ∨ (31 - i) / 8 = 2 ∨ (31 - i) / 8 = 3 := by omega
  have hp : ∀ q, q ≠ (31 - i) / 8 → pw f (i + 1) q = pw f i q := fun q h => by rw [pw, if_neg (fun e => h e.symm)]
  rcases hq with e | e | e | e <;> rw [e] at hp ⊢
  · simp [pU, hp 1 (by decide), hp 2 (by decide), hp 3 (by decide)]
  · simp [pU, hp 0 (by decide), hp 2 (by decide), hp 3 (by decide)]
  · simp [pU, hp 0 (by decide), hp 1 (by decide), hp 3 (by decide)]
  · simp [pU, hp 0 (by decide), hp 1 (by decide), hp 2 (by decide)]

/-- The signature that 65 bytes are. -/
def sgFrom (s : ByteArray) : Sg := (fromU (s.extract 0 32), fromU (s.extract 32 64), (((bl s).getD 64 0).toNat : Int))
theorem sgFrom_ok (s : ByteArray) : (sgFrom s).ok := ⟨fromU_ok _, fromU_ok _⟩
theorem extract_size {s : ByteArray} {a b : Nat} (h : b ≤ s.size) : (s.extract a b).size = b - a := by
  rw [ByteArray.size_extract]; omega

set_option maxHeartbeats 2000000 in
theorem fromU_any (s : ByteArray) (w : World) (hs : s.size = 32) : Calls Try.prog 55 #[.string s] w fun e w' => e = .returned (.tuple #[u4V (fromU s), .int .i64 0]) ∧ Below w.heap.size w w' := by
  have R0 := Lib.hid ((RowAt.new w (u4c (0, 0, 0, 0)) 66).alloc (.cells (u4c (0, 0, 0, 0)) 66))
  have R1 := Lib.hid (RowAt.new' (w.alloc (.cells (u4c (0, 0, 0, 0)) 66)) (u4c (0, 0, 0, 0)) 66 (k := w.heap.size + 1) (by simp))
  have HB := Lib.hid (belowA2 w (.cells (u4c (0, 0, 0, 0)) 66) (.cells (u4c (0, 0, 0, 0)) 66))
  have hz : u4c (0, 0, 0, 0) = u4c (pU (byF s) 0) := rfl
  have hes : fromU s = pU (byF s) 32 := rfl
  rw [hes]
  clear hes
  have HF := Lib.hid (fun k => byF_lt s k)
  have HG : Hid (∀ k (h : k < s.size), s[k].toNat = byF s k) := Lib.hid (fun k h => by rw [byF, sgetD h])
  have HS := Lib.hid (fun i (hi : i < 32) => pU_set (byF s) hi)
  have HO := Lib.hid (fun i (hi : i < 32) => pw_wrap (byF s) (byF_lt s) hi)
  generalize byF s = f at *
  have HZ := Lib.hid hz
  clear hz
  go_enter Try.func55, Try.ntmps55
  go_wp2
  go_loopw [13] (fun s wr => ∃ k : Nat, k ≤ 32 ∧ s = .int .i64 k ∧ Hid (RowAt wr w.heap.size (u4c (0, 0, 0, 0)) 66) ∧ Hid (RowAt wr (w.heap.size + 1) (u4c (pU f k)) 66) ∧ Hid (Below w.heap.size w wr)) (fun s _ => (32 - intOf s).toNat)
  case atStart => exact ⟨0, by omega, rfl, R0, Lib.hid (HZ.out ▸ R1.out), HB⟩
  case round =>
    clear R0 R1 HB HZ
    obtain ⟨k, hk, rfl, r0, r1, hb⟩ := hrel
    have R0 := Lib.hid r0.out
    have R1 := Lib.hid r1.out
    have HB := Lib.hid hb.out
    clear r0 r1 hb
    by_cases hlt : k < 32
    · have hq : (31 - (k : Int)).tdiv 8 = (((31 - k) / 8 : Nat) : Int) := by rw [Int.tdiv_eq_ediv_of_nonneg (by omega)]; omega
      have hm : (31 - (k : Int)).tmod 8 = (((31 - k) % 8 : Nat) : Int) := by rw [Int.tmod_eq_emod_of_nonneg (by omega)]; omega
      have hx : wr.cell? ⟨w.heap.size + 1, (31 - k) / 8, none⟩ = some (.int .u64 (pw f k ((31 - k) / 8))) := by
        rw [R1.out.cell]
        have : (31 - k) / 8 = 0 ∨ (31 - k) / 8 = 1 ∨ (31 - k) / 8 = 2 ∨ (31 - k) / 8 = 3 := by omega
        rcases this with e | e | e | e <;> rw [e] <;> rfl
      have hxf := R1.out.frozen ((31 - k) / 8)
      have hg := HG.out k (by omega)
      have hq4 : (31 - k) / 8 < 4 := by omega
      go_upto_region 8 with (fail)
      go_region
      go_wp2
      exact ⟨⟨k + 1, by omega, by simp, Lib.hid ((R0.out.other _ _ (by simp)).drew), Lib.hid ((R1.out.set _ _ (by rw [HO.out k hlt]; exact HS.out k hlt)).drew), Lib.hid ((HB.out.setCell (p := ⟨w.heap.size + 1, (31 - k) / 8, none⟩) (Nat.le_succ _) _).drew)⟩, by simp [intOf]; omega⟩
    · obtain rfl : k = 32 := by omega
      generalize hp : pU f 32 = p at *
      obtain ⟨s0, s1, s2, s3⟩ := p
      have HP := Lib.hid hp
      clear hp
      obtain ⟨x0, x1, x2, x3, xf0, xf1, xf2, xf3⟩ := R1.out.c4
      obtain ⟨y0, y1, y2, y3, yf0, yf1, yf2, yf3⟩ := R0.out.c4
      simp only at x0 x1 x2 x3
      go_wp2
      have RZ := (((R0.out.set 0 (.int .u64 s0) rfl).set 1 (.int .u64 s1) rfl).set 2 (.int .u64 s2) rfl).set 3 (.int .u64 s3) rfl
      obtain ⟨k0, k1, k2, k3, _⟩ := RZ.c4
      refine bodyPost_ret (v := .tuple #[u4V (s0, s1, s2, s3), .int .i64 0]) (by simp [results, Try.results55, go_sem, k0, k1, k2, k3]) rfl ?_
      exact ⟨by rw [HP.out], (((HB.out.setCell (p := ⟨w.heap.size, 0, none⟩) (Nat.le_refl _) _).setCell (p := ⟨w.heap.size, 1, none⟩) (Nat.le_refl _) _).setCell (p := ⟨w.heap.size, 2, none⟩) (Nat.le_refl _) _).setCell (p := ⟨w.heap.size, 3, none⟩) (Nat.le_refl _) _⟩
end Go.Proofs.Ytefmlbckbhlgdaa

/- Frame: the fields of a list of items (given one field's contract). Frame: Read, by a form. Frame: how many fields there are (that it answers). Frame: ref11.Like of rows that are the same. Frame: fields that come in; the law's own call that must answer. -/
import Derived.Test.YtefmlbckbhlgdaaRa10
namespace Go.Proofs.Ytefmlbckbhlgdaa
open Go.RowKit
/-- What the first 'i' items are as fields. -/
def partF (k : Kd) (xs : List It) (i : Nat) : Option (List Fd) :=
  if k.val = 42 then (match k.kids with
    | [] => none
    | kid :: _ => (xs.take i).mapM (fieldK kid)) else rowF (k.kids.take i) (xs.take i)
theorem rowF_snoc : ∀ (ks : List Kd) (xs : List It) (k : Kd) (x : It), ks.length = xs.length → rowF (ks ++ [k]) (xs ++ [x]) = (rowF ks xs).bind fun fs => (fieldK k x).map fun f => fs ++ [f]
  | [], [], k, f, _ => by
    simp only [List.nil_append, rowF, Option.bind_some]
    cases fieldK k f <;> rfl
  | k' :: ks, f' :: fs, k, f, h => by
    rw [List.cons_append, List.cons_append, rowF, rowF, rowF_snoc ks fs k f (by simpa using h)]
    cases fieldK k' f' with
    | none => rfl
    | some x =>
      simp only [Option.bind_some]
      cases rowF ks fs with
      | none => rfl
      | some xs =>
        simp only [Option.bind_some, Option.map_some]
        cases fieldK k f <;> rfl
  | [], _ :: _, _, _, h => by simp at h
  | _ :: _, [], _, _, h => by simp at h
theorem partF_step {k kd : Kd} {xs : List It} {i : Nat} {x : It} (hk : kindAt k i = some kd) (hx : xs[i]? = some x) : partF k xs (i + 1) = (partF k xs i).bind fun fs => (fieldK kd x).map fun f => fs ++ [f] := by
  have e1 : xs.take (i + 1) = xs.take i ++ [x] := by rw [List.take_add_one, hx]; rfl
  unfold kindAt at hk
  unfold partF
  by_cases h : k.val = 42
  · rw [if_pos h] at hk
    rw [if_pos h, if_pos h]
    cases hks : k.kids with
    | nil => rw [hks] at hk; cases hk
    | cons kid r =>
      rw [hks] at hk
      simp at hk
      subst hk
      simp only
      rw [e1, mapM_snoc]
  · rw [if_neg h] at hk
    rw [if_neg h, if_neg h]
    have e2 : k.kids.take (i + 1) = k.kids.take i ++ [kd] := by rw [List.take_add_one, hk]; rfl
    have h1 := (List.getElem?_eq_some_iff.1 hk).1
    have h2 := (List.getElem?_eq_some_iff.1 hx).1
    rw [e1, e2, rowF_snoc _ _ _ _ (by rw [List.length_take, List.length_take]; omega)]
theorem partF_none {k : Kd} {xs : List It} {i : Nat} (hk : ∀ j, i ≤ j → j < xs.length → ∃ kd, kindAt k j = some kd) (h : partF k xs i = none) : ∀ n, i + n ≤ xs.length → partF k xs (i + n) = none
  | 0, _ => h
  | n + 1, hn => by
    obtain ⟨kd, e⟩ := hk (i + n) (by omega) (by omega)
    have := partF_step (xs := xs) e (List.getElem?_eq_getElem (show i + n < xs.length by omega))
    rw [← Nat.add_assoc, this, partF_none hk h n (by omega)]
    rfl
/-- May a list have so many items? -/
def fitF (k : Kd) (n : Nat) : Bool := if k.val = 42 then true else decide (n = k.kids.length)
theorem rowF_len : ∀ (a : List Kd) (b : List It), b.length ≠ a.length → rowF a b = none
  | [], [], h => by simp at h
  | [], f :: b, _ => by rw [rowF]
  | k :: a, [], _ => by rw [rowF]
  | k :: a, f :: b, h => by
    rw [rowF, rowF_len a b (by simpa using h)]
    cases fieldK k f <;> rfl
theorem fieldsT_part {k : Kd} {l : Bool} {b : List UInt8} {xs : List It} (hk : kOk k) : fieldsT k (.mk l b xs) = if l = true ∧ fitF k xs.length = true then partF k xs xs.length else none := by
  obtain ⟨c, ks⟩ := k
  rw [fieldsT]
  by_cases hl : ¬ l = true
  · rw [if_neg hl, if_neg (fun h => hl h.1)]
  replace hl : l = true := by simpa using hl
  unfold fitF partF
  try simp only
  by_cases h : c = 42
  · rw [if_pos hl, if_pos h, if_pos h, if_pos h, if_pos ⟨hl, rfl⟩, List.take_length]
    rw [kOk] at hk
    cases ks with
    | nil =>
      rcases hk.1 with h' | h' | h'
      · simp at h'
      · rw [h] at h'; exact absurd h' (by decide)
      · rw [h] at h'; exact absurd h'.1 (by decide)
    | cons kid r => rw [starF]
  · rw [if_pos hl, if_neg h, if_neg h, if_neg h]
    by_cases hn : xs.length = ks.length
    · rw [if_pos ⟨hl, by simpa using hn⟩, List.take_length, hn, List.take_length]
    · rw [if_neg (fun h => hn (by simpa using h.2)), rowF_len ks xs hn]
theorem sizes_len : ∀ a : List It, a.length ≤ sizes a
  | [] => Nat.le_refl _
  | x :: a => by
    have := sizes_len a
    have h : 1 ≤ x.size := by cases x with | mk l b k => rw [It.size]; omega
    rw [sizes, List.length_cons]; omega
theorem sizes_getF : ∀ {a : List It} {i : Nat} {x : It}, a[i]? = some x → x.size ≤ sizes a
  | [], i, x, h => by simp at h
  | y :: a, 0, x, h => by simp at h; subst h; rw [sizes]; omega
  | y :: a, i + 1, x, h => by have := sizes_getF (a := a) (i := i) (by simpa using h); rw [sizes]; omega
theorem FieldsPost.no {w w' : World} {p : Option Addr} {m c : Nat} (hb : Below w.heap.size w w') : FieldsPost none w (.returned (.tuple #[.slice p m c, .bool false])) w' := ⟨p, m, c, false, rfl, hb, .inl ⟨rfl, rfl⟩⟩

set_option maxRecDepth 100000 in
set_option maxHeartbeats 4000000 in
theorem fields_of (c : UInt8) (ks : List Kd) (hk : kOk (.mk c ks)) (hn : ks.length ≤ 1000) (H : ∀ kd ∈ ks, FieldC kd) : FieldsC (.mk c ks) := by
  intro s x v w hsz hK hx
  obtain ⟨l, b, xs⟩ := x
  obtain ⟨kv, rfl, hbz, hkids⟩ := itemIs_iff.1 hx
  obtain ⟨px, cx, rfl, x1s, x2s, -⟩ := hkids.parts
  simp only [itemV] at *
  obtain ⟨pk, nk, ck⟩ := s
  obtain ⟨hnk, k1, k2⟩ := RowT.sane hK
  replace hnk : nk = ks.length := hnk
  subst hnk
  rw [It.size] at hsz
  have hxl := sizes_len xs
  have HSZ := Lib.hid (fun (i : Nat) (x : It) (h : xs[i]? = some x) => (by have := sizes_getF h; omega : x.size ≤ 100000))
  rw [fieldsT_part hk]
  have HP0 : Hid (partF (.mk c ks) xs 0 = some []) := Lib.hid (by
    unfold partF
    by_cases h : c = 42
    · rw [if_pos h]
      have hk' := hk
      rw [kOk] at hk'
      cases ks with
      | nil =>
        rcases hk'.1 with h' | h' | h'
        · simp at h'
        · rw [h] at h'; exact absurd h' (by decide)
        · rw [h] at h'; exact absurd h'.1 (by decide)
      | cons kid r => rfl
    · rw [if_neg h]
      simp [rowF])
  have hres : ∀ r, r = (if l = true ∧ fitF (.mk c ks) xs.length = true then partF (.mk c ks) xs xs.length else none) → Hid (r = (if l = true ∧ fitF (.mk c ks) xs.length = true then partF (.mk c ks) xs xs.length else none)) := fun r h => Lib.hid h
  generalize hr : (if l = true ∧ fitF (.mk c ks) xs.length = true then partF (.mk c ks) xs xs.length else none) = res
  have HRES := hres res hr.symm
  clear hres hr
  have HK0 := Lib.hid hK
  have HX0 := Lib.hid hkids
  simp only [Tr.val, slV, kV] at *
  have R2 := Lib.hid ((RowAt.new w #[.int .u8 c.toNat, .slice pk ks.length ck] 111).alloc (.cells #[.bool l, .string (mkS b), .slice px xs.length cx] 98))
  have R3 := Lib.hid (RowAt.new' (w.alloc (.cells #[.int .u8 c.toNat, .slice pk ks.length ck] 111)) #[.bool l, .string (mkS b), .slice px xs.length cx] 98 (k := w.heap.size + 1) (by simp))
  have HWS : Hid (((w.alloc (.cells #[.int .u8 c.toNat, .slice pk ks.length ck] 111)).alloc (.cells #[.bool l, .string (mkS b), .slice px xs.length cx] 98)).heap.size = w.heap.size + 2) := Lib.hid (by simp)
  have HB := Lib.hid (bel2 w (.cells #[.int .u8 c.toNat, .slice pk ks.length ck] 111) (.cells #[.bool l, .string (mkS b), .slice px xs.length cx] 98))
  have hxm : xs.length ≤ 100000 := by omega
  clear hK hx hkids hsz
  unfold maxLen at k2
  clear hxl
  go_enter Try.func53, Try.ntmps53
  go_upto_region 1 with (fail)
  generalize hW : (w.alloc (.cells #[.int .u8 c.toNat, .slice pk ks.length ck] 111)).alloc (.cells #[.bool l, .string (mkS b), .slice px xs.length cx] 98) = W at *
  clear hW
  obtain ⟨x0, x1, xf0, xf1⟩ := R2.out.c2
  obtain ⟨z0, z1, z2, zf0, zf1, zf2⟩ := R3.out.c3
  cases l with
  | false =>
    have hno : Hid (res = none) := Lib.hid (by have := HRES.out; rw [this, if_neg (fun h => by cases h.1)])
    clear HRES HP0 H hk
    go_wp2
    refine bodyPost_ret (v := .tuple #[.slice none 0 0, .bool false]) (by simp [results, Try.results53, go_sem]) rfl ?_
    rw [hno.out]
    exact FieldsPost.no HB.out
  | true =>
    by_cases h42 : c = 42
    · have q1 : ((c.toNat : Int) == 42) = true := by rw [h42]; rfl
      have q2 : ((c.toNat : Int) != 42) = false := by rw [bne, q1]; rfl
      have FIT : Hid (fitF (.mk c ks) xs.length = true) := Lib.hid (by unfold fitF; rw [if_pos h42])
      have HFIT : Hid (xs.length = xs.length) := Lib.hid rfl
      have HWS2 : Hid (w.heap.size + 2 ≤ W.heap.size) := Lib.hid (by rw [HWS.out]; exact Nat.le_refl _)
      go_upto_region 5 with (fail)
      clear x0 x1 xf0 xf1 z0 z1 z2 zf0 zf1 zf2 HWS R3
      have O0 : Hid (OwnT encFd 64 (fun b => w.heap.size + 2 ≤ b) W (w.heap.size + 2) (.slice none 0 0) []) := Lib.hid (OwnT.nil _ _)
      go_loopw [6, 32] (fun s6 s32 wr => ∃ (i : Nat) (fs : List Fd) (po : Option Addr) (co : Nat), i ≤ xs.length ∧ fs.length = i ∧ s6 = .slice po i co ∧ s32 = .int .i64 i ∧ Hid (partF (.mk c ks) xs i = some fs) ∧ Hid (OwnT encFd 64 (fun b => w.heap.size + 2 ≤ b) wr (w.heap.size + 2) (.slice po i co) fs) ∧ Hid (RowAt wr w.heap.size #[.int .u8 c.toNat, .slice pk ks.length ck] 111) ∧ Hid (Below w.heap.size w wr) ∧ Hid (w.heap.size + 2 ≤ wr.heap.size)) (fun _ s _ => xs.length - (intOf s).toNat)
      case atStart => exact ⟨0, [], none, 0, Nat.zero_le _, rfl, rfl, rfl, HP0, O0, R2, HB, HWS2⟩
      case round =>
        clear HP0 O0 R2 HB HWS2
        obtain ⟨i, fs, po, co, hi, hxl, rfl, rfl, hp, ho, h2, hb, hws⟩ := hrel
        have HP := Lib.hid hp.out
        have O := Lib.hid ho.out
        have R2 := Lib.hid h2.out
        have HB := Lib.hid hb.out
        have HWS := Lib.hid hws.out
        have HXL := Lib.hid hxl
        clear hp ho h2 hb hws hxl
        by_cases hlt : i < xs.length
        · obtain ⟨x, hx⟩ : ∃ x, xs[i]? = some x := ⟨_, List.getElem?_eq_getElem (by have := HFIT.out; omega)⟩
          have HXS := Lib.hid (HSZ.out i x hx)
          obtain ⟨px', cx', e, -, -, hkid⟩ := (KidsIs.below HX0.out HB.out (Nat.le_refl _)).parts
          injection e with e1 e2 e3
          subst e1 e3
          clear e2
          obtain ⟨adf, l3, b3, p3, n3, c3, rfl, f0, f1', f2', hki⟩ := hkid i x hx
          clear hkid
          rw [← Go.Deep.add_add] at f1' f2'
          replace f1' : wr.cell? ⟨(adf.add (i * 3)).block, (adf.add (i * 3)).off + 1, none⟩ = some (.string b3) := f1'
          replace f2' : wr.cell? ⟨(adf.add (i * 3)).block, (adf.add (i * 3)).off + 2, none⟩ = some (.slice p3 n3 c3) := f2'
          obtain ⟨kd, hkd⟩ : ∃ kd, ks[0]? = some kd := by
            have := hk
            rw [kOk] at this
            rcases this.1 with ⟨_, h⟩ | h | h
            · exact ⟨_, List.getElem?_eq_getElem (show 0 < ks.length by omega)⟩
            · rw [h42] at h; exact absurd h (by decide)
            · rw [h42] at h; exact absurd h.1 (by decide)
          have hka : ∀ j, kindAt (.mk c ks) j = some kd := fun j => by unfold kindAt; rw [if_pos h42]; exact hkd
          have hkall : ∀ j, i ≤ j → j < xs.length → ∃ kd, kindAt (.mk c ks) j = some kd := fun j _ _ => ⟨kd, hka j⟩
          have hstep := partF_step (hka i) hx
          obtain ⟨adk, sk, rfl, hkc, hkk⟩ := RowT.at2 (RowT.below (show RowT encK (fun _ => True) w (.slice pk ks.length ck) ks from HK0.out) HB.out (Nat.le_refl _)) hkd
          have HIC := H kd (List.mem_of_getElem? hkd)
          obtain ⟨p4, n4, c4⟩ := sk
          have g0 := hkc 0 _ rfl
          have g1 := hkc 1 _ rfl
          replace g0 : wr.cell? adk = some (.int .u8 (kd.val.toNat : Int)) := g0
          replace g1 : wr.cell? ⟨adk.block, adk.off + 1, none⟩ = some (.slice p4 n4 c4) := g1
          obtain ⟨x0, x1, xf0, xf1⟩ := R2.out.c2
          have HST := Lib.hid hstep
          have HKALL := Lib.hid hkall
          have HFI := Lib.hid hki
          have HKK := Lib.hid hkk
          clear hstep hkall hki hkk hkc hx
          have hks0 : 0 < ks.length := (List.getElem?_eq_some_iff.1 hkd).1
          go_upto_region 7 with (fail)
          have B1 := bel1 wr (.cells #[.bool l3, .string b3, .slice p3 n3 c3] 98)
          have R8 := Lib.hid (RowAt.new wr #[.bool l3, .string b3, .slice p3 n3 c3] 98)
          have mv : ∀ a u, wr.cell? a = some u → (wr.alloc (.cells #[.bool l3, .string b3, .slice p3 n3 c3] 98)).cell? a = some u := fun a u h => by rw [B1.cell (block_lt_of_cell h)]; exact h
          have HB1 := Lib.hid B1
          have HK9 := Lib.hid R8.out.lt
          clear x0 x1 xf0 xf1 f0 f1' f2' B1
          replace g0 := mv _ _ g0
          replace g1 := mv _ _ g1
          clear mv
          obtain ⟨x0, x1, xf0, xf1⟩ := (R2.out.belowS HB1.out).c2
          generalize wr.alloc (.cells #[.bool l3, .string b3, .slice p3 n3 c3] 98) = wa at *
          go_upto_region 8 with (fail)
          have B2 := bel1 wa (.cells #[.int .u8 (kd.val.toNat : Int), .slice p4 n4 c4] 111)
          have R9 := Lib.hid (RowAt.new wa #[.int .u8 (kd.val.toNat : Int), .slice p4 n4 c4] 111)
          have HB2 := Lib.hid (HB1.out.trans (B2.mono HB1.out.size))
          replace R8 := Lib.hid (R8.out.belowS B2)
          clear x0 x1 xf0 xf1 B2 g0 g1
          obtain ⟨x0, x1, xf0, xf1⟩ := (R2.out.belowS HB2.out).c2
          generalize wa.alloc (.cells #[.int .u8 (kd.val.toNat : Int), .slice p4 n4 c4] 111) = wb at *
          generalize wa.heap.size = k9 at *
          go_upto_region 10 with (fail)
          have HB3 := HB2
          clear HB2 x0 x1 xf0 xf1
          generalize wb = W5 at *
          obtain ⟨y0, y1, yf0, yf1⟩ := R9.out.c2
          obtain ⟨u0, u1, u2, uf0, uf1, uf2⟩ := R8.out.c3
          have KI := Lib.hid (HIC (p4, n4, c4) x (.agg #[.bool l3, .string b3, .slice p3 n3 c3]) W5 HXS.out (RowT.below HKK.out HB3.out (Nat.le_refl _)) (ItemIs.below HB3.out (Nat.le_refl _) _ _ HFI.out))
          clear HKK HFI HIC HXS
          have HBW := Lib.hid (HB.out.trans (HB3.out.mono HB.out.size))
          have HS5 := Lib.hid HB3.out.size
          replace R2 := Lib.hid (R2.out.belowS HB3.out)
          replace O := Lib.hid (O.out.below HB3.out (Nat.le_refl _))
          have O0w := O
          have HW5 : Hid (w.heap.size + 2 ≤ W5.heap.size) := Lib.hid (Nat.le_trans HWS.out HB3.out.size)
          clear HB HB3 R8 R9 HWS
          go_upto_region 11 with (go_at_call 98; refine KI.out.mono ?_; intro e w6 hpost; obtain ⟨fn, fb, p, m, c', is, rfl, hb, hcase⟩ := hpost; have HC := Lib.hid hcase; clear hcase; clear KI y0 y1 yf0 yf1 u0 u1 u2 uf0 uf1 uf2; have HS6 := Lib.hid hb.size; (replace R2 := Lib.hid (R2.out.belowS hb); replace O := Lib.hid (O.out.below hb (Nat.le_refl _)); replace HBW := Lib.hid (HBW.out.trans (hb.mono HBW.out.size)); clear hb))
          (replace R2 := Lib.hid (R2.out.alloc (.cells #[.int .u64 (fn : Int), .string (mkS fb), .slice p m c'] 64)); replace O := Lib.hid (O.out.below ((Below.refl (w6).heap.size (w6)).alloc (Nat.le_refl _) (.cells #[.int .u64 (fn : Int), .string (mkS fb), .slice p m c'] 64)) (Nat.le_refl _)); replace HBW := Lib.hid (HBW.out.alloc HBW.out.size (.cells #[.int .u64 (fn : Int), .string (mkS fb), .slice p m c'] 64)))
          have R10 := Lib.hid (RowAt.new w6 #[.int .u64 (fn : Int), .string (mkS fb), .slice p m c'] 64)
          rcases HC.out with ⟨hn0, rfl⟩ | ⟨fk, hs0, rfl, hrow⟩
          · have hno : Hid (res = none) := Lib.hid (by
              have h1 : partF (.mk c ks) xs (i + 1) = none := by rw [HST.out, HP.out, hn0]; rfl
              have h2 := partF_none (fun j hj hj2 => HKALL.out j (by omega) hj2) h1 (xs.length - (i + 1)) (by have := HFIT.out; omega)
              rw [show i + 1 + (xs.length - (i + 1)) = xs.length by omega] at h2
              rw [HRES.out, if_pos (by exact ⟨by trivial, FIT.out⟩), h2])
            clear hn0 HC HST HP HKALL O
            generalize w6.alloc (.cells #[.int .u64 (fn : Int), .string (mkS fb), .slice p m c'] 64) = w7 at *
            go_wp2
            refine bodyPost_ret (v := .tuple #[.slice none 0 0, .bool false]) (by simp [results, Try.results53, go_sem]) rfl ?_
            rw [hno.out]
            exact FieldsPost.no HBW.out
          · have HP2 : Hid (partF (.mk c ks) xs (i + 1) = some (fs ++ [.mk (fn, fb) fk])) := Lib.hid (by rw [HST.out, HP.out, hs0]; rfl)
            have HY := Lib.hid ((OwnT.fresh (t := .mk (fn, fb) fk) (s := (p, m, c')) O0w.out (Nat.le_refl _) (fun b hb => Nat.le_trans HW5.out hb) (show RowT encFd (fun b => W5.heap.size ≤ b) w6 (.slice p m c') fk from hrow)).move (bel2 w6 (.cells #[.int .u64 (fn : Int), .string (mkS fb), .slice p m c'] 64) (.cells #[.int .u64 (fn : Int), .string (mkS fb), .slice p m c'] 64)) (Nat.le_refl _))
            have R11 := Lib.hid (RowAt.new (w6.alloc (.cells #[.int .u64 (fn : Int), .string (mkS fb), .slice p m c'] 64)) #[.int .u64 (fn : Int), .string (mkS fb), .slice p m c'] 64)
            have O8 := Lib.hid (O.out.below (bel1 (w6.alloc (.cells #[.int .u64 (fn : Int), .string (mkS fb), .slice p m c'] 64)) (.cells #[.int .u64 (fn : Int), .string (mkS fb), .slice p m c'] 64)) (Nat.le_refl _))
            have HB8 := Lib.hid (HBW.out.trans ((bel1 (w6.alloc (.cells #[.int .u64 (fn : Int), .string (mkS fb), .slice p m c'] 64)) (.cells #[.int .u64 (fn : Int), .string (mkS fb), .slice p m c'] 64)).mono HBW.out.size))
            have R28 := Lib.hid (R2.out.alloc (.cells #[.int .u64 (fn : Int), .string (mkS fb), .slice p m c'] 64))
            have HSZ2 : Hid (w.heap.size + 2 ≤ ((w6.alloc (.cells #[.int .u64 (fn : Int), .string (mkS fb), .slice p m c'] 64)).alloc (.cells #[.int .u64 (fn : Int), .string (mkS fb), .slice p m c'] 64)).heap.size) := Lib.hid (by have := HW5.out; have := HS6.out; simp; omega)
            clear hs0 hrow HC HST HP HKALL O HBW O0w
            generalize w6.alloc (.cells #[.int .u64 (fn : Int), .string (mkS fb), .slice p m c'] 64) = w7 at *
            generalize w6.heap.size = k10 at *
            obtain ⟨y0, y1, y2, yf0, yf1, yf2⟩ := R10.out.c3
            go_upto_region 14 with (at_builtin; refine wpList_append_tree (E := encFd) (A := fun b => w.heap.size + 2 ≤ b) Try.underlying60 info_field rfl (by omega) rfl _ _ rfl (w.heap.size + 2) _ fs rfl O8.out ⟨w7.heap.size, 0, none⟩ (.mk (fn, fb) fk) ((fn, fb), p, m, c') rfl (lit_cells R11.out rfl) HY.out (by have := HXL.out; omega) HSZ2.out ?_)
            intro v' w' ho hg hbb hz
            have hl2 : (fs ++ [Tr.mk (fn, fb) fk]).length = i + 1 := by simp [HXL.out]
            obtain ⟨po', co', e, _, _⟩ := OwnT.shape ho
            rw [hl2] at e
            subst e
            have hbk := hbb _ (Below.refl _ _)
            have R2' := Lib.hid (R28.out.below hbk (by omega))
            have HB' := Lib.hid (HB8.out.trans (hbk.mono (by omega)))
            have O' := Lib.hid ho
            have HWS' : Hid (w.heap.size + 2 ≤ w'.heap.size) := Lib.hid (Nat.le_trans HSZ2.out hbk.size)
            clear ho hg hbb hz hbk R2 R28 HB8 O8 y0 y1 y2 yf0 yf1 yf2
            generalize fs ++ [Tr.mk (fn, fb) fk] = fs2 at *
            have HL2 := Lib.hid hl2
            clear hl2
            go_wp2
            exact ⟨⟨i + 1, fs2, po', co', by omega, HL2.out, rfl, by simp, HP2, O', R2', HB', HWS'⟩, by simp [intOf]; omega⟩
        · obtain rfl : i = xs.length := by omega
          have hfin := HRES.out
          rw [if_pos (by exact ⟨by trivial, FIT.out⟩), HP.out] at hfin
          have HF := Lib.hid hfin
          have HI := Lib.hid (show RowT encFd (fun b => w.heap.size + 2 ≤ b) wr (.slice po xs.length co) fs from O.out.row (fun b hb => hb))
          clear hfin HP HRES O
          go_wp2
          refine bodyPost_ret (v := .tuple #[.slice po xs.length co, .bool true]) (by simp [results, Try.results53, go_sem]) rfl ?_
          rw [HF.out]
          exact ⟨po, _, co, true, rfl, HB.out, .inr ⟨fs, rfl, rfl, HI.out.weaken (fun b hb => by omega)⟩⟩
    · have q1 : ((c.toNat : Int) == 42) = false := c8_ne (n := 42) (by omega) h42
      have q2 : ((c.toNat : Int) != 42) = true := by rw [bne, q1]; rfl
      by_cases hfit : ¬ xs.length = ks.length
      · have q3 : ((xs.length : Int) != (ks.length : Int)) = true := bne_iff_ne.2 (by omega)
        have hno : Hid (res = none) := Lib.hid (by have := HRES.out; rw [this, if_neg (fun h => by have := h.2; unfold fitF at this; rw [if_neg h42] at this; exact hfit (by simpa using this))])
        clear HRES HP0 H hk h42 hfit
        go_wp2
        refine bodyPost_ret (v := .tuple #[.slice none 0 0, .bool false]) (by simp [results, Try.results53, go_sem]) rfl ?_
        rw [hno.out]
        exact FieldsPost.no HB.out
      replace hfit : xs.length = ks.length := by simpa using hfit
      have q3 : ((ks.length : Int) != (ks.length : Int)) = false := by simp
      have FIT : Hid (fitF (.mk c ks) ks.length = true) := Lib.hid (by unfold fitF; rw [if_neg h42]; simp)
      rw [hfit] at HRES HX0 R3 z2 hxm x1s ⊢
      have HFIT := Lib.hid hfit
      clear hfit
      have HWS2 : Hid (w.heap.size + 2 ≤ W.heap.size) := Lib.hid (by rw [HWS.out]; exact Nat.le_refl _)
      go_upto_region 5 with (fail)
      clear x0 x1 xf0 xf1 z0 z1 z2 zf0 zf1 zf2 HWS R3
      have O0 : Hid (OwnT encFd 64 (fun b => w.heap.size + 2 ≤ b) W (w.heap.size + 2) (.slice none 0 0) []) := Lib.hid (OwnT.nil _ _)
      go_loopw [6, 32] (fun s6 s32 wr => ∃ (i : Nat) (fs : List Fd) (po : Option Addr) (co : Nat), i ≤ ks.length ∧ fs.length = i ∧ s6 = .slice po i co ∧ s32 = .int .i64 i ∧ Hid (partF (.mk c ks) xs i = some fs) ∧ Hid (OwnT encFd 64 (fun b => w.heap.size + 2 ≤ b) wr (w.heap.size + 2) (.slice po i co) fs) ∧ Hid (RowAt wr w.heap.size #[.int .u8 c.toNat, .slice pk ks.length ck] 111) ∧ Hid (Below w.heap.size w wr) ∧ Hid (w.heap.size + 2 ≤ wr.heap.size)) (fun _ s _ => ks.length - (intOf s).toNat)
      case atStart => exact ⟨0, [], none, 0, Nat.zero_le _, rfl, rfl, rfl, HP0, O0, R2, HB, HWS2⟩
      case round =>
        clear HP0 O0 R2 HB HWS2
        obtain ⟨i, fs, po, co, hi, hxl, rfl, rfl, hp, ho, h2, hb, hws⟩ := hrel
        have HP := Lib.hid hp.out
        have O := Lib.hid ho.out
        have R2 := Lib.hid h2.out
        have HB := Lib.hid hb.out
        have HWS := Lib.hid hws.out
        have HXL := Lib.hid hxl
        clear hp ho h2 hb hws hxl
        by_cases hlt : i < ks.length
        · obtain ⟨x, hx⟩ : ∃ x, xs[i]? = some x := ⟨_, List.getElem?_eq_getElem (by have := HFIT.out; omega)⟩
          have HXS := Lib.hid (HSZ.out i x hx)
          obtain ⟨px', cx', e, -, -, hkid⟩ := (KidsIs.below HX0.out HB.out (Nat.le_refl _)).parts
          injection e with e1 e2 e3
          subst e1 e3
          clear e2
          obtain ⟨adf, l3, b3, p3, n3, c3, rfl, f0, f1', f2', hki⟩ := hkid i x hx
          clear hkid
          rw [← Go.Deep.add_add] at f1' f2'
          replace f1' : wr.cell? ⟨(adf.add (i * 3)).block, (adf.add (i * 3)).off + 1, none⟩ = some (.string b3) := f1'
          replace f2' : wr.cell? ⟨(adf.add (i * 3)).block, (adf.add (i * 3)).off + 2, none⟩ = some (.slice p3 n3 c3) := f2'
          obtain ⟨kd, hkd⟩ : ∃ kd, ks[i]? = some kd := ⟨_, List.getElem?_eq_getElem (by have := HFIT.out; omega)⟩
          obtain ⟨kd0, hkd0⟩ : ∃ kd0, ks[0]? = some kd0 := ⟨_, List.getElem?_eq_getElem (by have := HFIT.out; omega)⟩
          have hkall : ∀ j, i ≤ j → j < xs.length → ∃ kd, kindAt (.mk c ks) j = some kd := fun j _ hj => ⟨_, by unfold kindAt; rw [if_neg h42]; exact List.getElem?_eq_getElem (show j < ks.length by have := HFIT.out; omega)⟩
          have hstep := partF_step (k := .mk c ks) (show kindAt (.mk c ks) i = some kd by unfold kindAt; rw [if_neg h42]; exact hkd) hx
          obtain ⟨adk, sk, rfl, hkc, hkk⟩ := RowT.at2 (RowT.below (show RowT encK (fun _ => True) w (.slice pk ks.length ck) ks from HK0.out) HB.out (Nat.le_refl _)) hkd
          obtain ⟨adk', sk0, ek, hkc0, -⟩ := RowT.at2 (RowT.below (show RowT encK (fun _ => True) w (.slice (some adk) ks.length ck) ks from HK0.out) HB.out (Nat.le_refl _)) hkd0
          injection ek with ek
          subst ek
          obtain ⟨p5, n5, c5⟩ := sk0
          have m0 := hkc0 0 _ rfl
          have m1 := hkc0 1 _ rfl
          replace m0 : wr.cell? adk = some (.int .u8 (kd0.val.toNat : Int)) := m0
          replace m1 : wr.cell? ⟨adk.block, adk.off + 1, none⟩ = some (.slice p5 n5 c5) := m1
          generalize kd0.val.toNat = v0 at *
          have HIC := H kd (List.mem_of_getElem? hkd)
          obtain ⟨p4, n4, c4⟩ := sk
          have g0 := hkc 0 _ rfl
          have g1 := hkc 1 _ rfl
          replace g0 : wr.cell? (adk.add (i * 2)) = some (.int .u8 (kd.val.toNat : Int)) := g0
          replace g1 : wr.cell? ⟨(adk.add (i * 2)).block, (adk.add (i * 2)).off + 1, none⟩ = some (.slice p4 n4 c4) := g1
          obtain ⟨x0, x1, xf0, xf1⟩ := R2.out.c2
          have HST := Lib.hid hstep
          have HKALL := Lib.hid hkall
          have HFI := Lib.hid hki
          have HKK := Lib.hid hkk
          clear hstep hkall hki hkk hkc hx
          have hks0 : 0 < ks.length := (List.getElem?_eq_some_iff.1 hkd0).1
          have hki2 : i < ks.length := (List.getElem?_eq_some_iff.1 hkd).1
          go_upto_region 7 with (fail)
          have B1 := bel1 wr (.cells #[.bool l3, .string b3, .slice p3 n3 c3] 98)
          have R8 := Lib.hid (RowAt.new wr #[.bool l3, .string b3, .slice p3 n3 c3] 98)
          have mv : ∀ a u, wr.cell? a = some u → (wr.alloc (.cells #[.bool l3, .string b3, .slice p3 n3 c3] 98)).cell? a = some u := fun a u h => by rw [B1.cell (block_lt_of_cell h)]; exact h
          have HB1 := Lib.hid B1
          have HK9 := Lib.hid R8.out.lt
          clear x0 x1 xf0 xf1 f0 f1' f2' B1
          replace g0 := mv _ _ g0
          replace g1 := mv _ _ g1
          replace m0 := mv _ _ m0
          replace m1 := mv _ _ m1
          clear mv
          obtain ⟨x0, x1, xf0, xf1⟩ := (R2.out.belowS HB1.out).c2
          generalize wr.alloc (.cells #[.bool l3, .string b3, .slice p3 n3 c3] 98) = wa at *
          go_upto_region 8 with (fail)
          have B2 := bel1 wa (.cells #[.int .u8 (v0 : Int), .slice p5 n5 c5] 111)
          have R9 := Lib.hid (RowAt.new wa #[.int .u8 (v0 : Int), .slice p5 n5 c5] 111)
          have mv : ∀ a u, wa.cell? a = some u → (wa.alloc (.cells #[.int .u8 (v0 : Int), .slice p5 n5 c5] 111)).cell? a = some u := fun a u h => by rw [B2.cell (block_lt_of_cell h)]; exact h
          have HB2 := Lib.hid (HB1.out.trans (B2.mono HB1.out.size))
          replace R8 := Lib.hid (R8.out.belowS B2)
          clear x0 x1 xf0 xf1 B2
          replace g0 := mv _ _ g0
          replace g1 := mv _ _ g1
          clear mv
          obtain ⟨x0, x1, xf0, xf1⟩ := (R2.out.belowS HB2.out).c2
          generalize wa.alloc (.cells #[.int .u8 (v0 : Int), .slice p5 n5 c5] 111) = wb at *
          generalize wa.heap.size = k9 at *
          obtain ⟨y0, y1, yf0, yf1⟩ := R9.out.c2
          go_upto_region 10 with (fail)
          replace R9 : Hid (RowAt ((wb.setCell ⟨k9, 0, none⟩ (.int .u8 (kd.val.toNat : Int))).setCell ⟨k9, 1, none⟩ (.slice p4 n4 c4)) k9 #[.int .u8 (kd.val.toNat : Int), .slice p4 n4 c4] 111) := Lib.hid ((R9.out.set 0 _ rfl).set 1 _ rfl)
          replace R8 : Hid (RowAt ((wb.setCell ⟨k9, 0, none⟩ (.int .u8 (kd.val.toNat : Int))).setCell ⟨k9, 1, none⟩ (.slice p4 n4 c4)) wr.heap.size #[.bool l3, .string b3, .slice p3 n3 c3] 98) := Lib.hid ((R8.out.other ⟨k9, 0, none⟩ _ (by have := HK9.out; simp only; omega)).other ⟨k9, 1, none⟩ _ (by have := HK9.out; simp only; omega))
          have HB3 : Hid (Below wr.heap.size wr ((wb.setCell ⟨k9, 0, none⟩ (.int .u8 (kd.val.toNat : Int))).setCell ⟨k9, 1, none⟩ (.slice p4 n4 c4))) := Lib.hid ((HB2.out.setCell (p := ⟨k9, 0, none⟩) (Nat.le_of_lt HK9.out) _).setCell (p := ⟨k9, 1, none⟩) (Nat.le_of_lt HK9.out) _)
          clear HB2 x0 x1 xf0 xf1 g0 g1 m0 m1 y0 y1 yf0 yf1
          generalize (wb.setCell ⟨k9, 0, none⟩ (.int .u8 (kd.val.toNat : Int))).setCell ⟨k9, 1, none⟩ (.slice p4 n4 c4) = W5 at *
          obtain ⟨y0, y1, yf0, yf1⟩ := R9.out.c2
          obtain ⟨u0, u1, u2, uf0, uf1, uf2⟩ := R8.out.c3
          have KI := Lib.hid (HIC (p4, n4, c4) x (.agg #[.bool l3, .string b3, .slice p3 n3 c3]) W5 HXS.out (RowT.below HKK.out HB3.out (Nat.le_refl _)) (ItemIs.below HB3.out (Nat.le_refl _) _ _ HFI.out))
          clear HKK HFI HIC HXS
          have HBW := Lib.hid (HB.out.trans (HB3.out.mono HB.out.size))
          have HS5 := Lib.hid HB3.out.size
          replace R2 := Lib.hid (R2.out.belowS HB3.out)
          replace O := Lib.hid (O.out.below HB3.out (Nat.le_refl _))
          have O0w := O
          have HW5 : Hid (w.heap.size + 2 ≤ W5.heap.size) := Lib.hid (Nat.le_trans HWS.out HB3.out.size)
          clear HB HB3 R8 R9 HWS
          go_upto_region 11 with (go_at_call 98; refine KI.out.mono ?_; intro e w6 hpost; obtain ⟨fn, fb, p, m, c', is, rfl, hb, hcase⟩ := hpost; have HC := Lib.hid hcase; clear hcase; clear KI y0 y1 yf0 yf1 u0 u1 u2 uf0 uf1 uf2; have HS6 := Lib.hid hb.size; (replace R2 := Lib.hid (R2.out.belowS hb); replace O := Lib.hid (O.out.below hb (Nat.le_refl _)); replace HBW := Lib.hid (HBW.out.trans (hb.mono HBW.out.size)); clear hb))
          (replace R2 := Lib.hid (R2.out.alloc (.cells #[.int .u64 (fn : Int), .string (mkS fb), .slice p m c'] 64)); replace O := Lib.hid (O.out.below ((Below.refl (w6).heap.size (w6)).alloc (Nat.le_refl _) (.cells #[.int .u64 (fn : Int), .string (mkS fb), .slice p m c'] 64)) (Nat.le_refl _)); replace HBW := Lib.hid (HBW.out.alloc HBW.out.size (.cells #[.int .u64 (fn : Int), .string (mkS fb), .slice p m c'] 64)))
          have R10 := Lib.hid (RowAt.new w6 #[.int .u64 (fn : Int), .string (mkS fb), .slice p m c'] 64)
          rcases HC.out with ⟨hn0, rfl⟩ | ⟨fk, hs0, rfl, hrow⟩
          · have hno : Hid (res = none) := Lib.hid (by
              have h1 : partF (.mk c ks) xs (i + 1) = none := by rw [HST.out, HP.out, hn0]; rfl
              have h2 := partF_none (fun j hj hj2 => HKALL.out j (by omega) hj2) h1 (ks.length - (i + 1)) (by have := HFIT.out; omega)
              rw [show i + 1 + (ks.length - (i + 1)) = ks.length by omega] at h2
              rw [HRES.out, if_pos (by exact ⟨by trivial, FIT.out⟩), h2])
            clear hn0 HC HST HP HKALL O
            generalize w6.alloc (.cells #[.int .u64 (fn : Int), .string (mkS fb), .slice p m c'] 64) = w7 at *
            go_wp2
            refine bodyPost_ret (v := .tuple #[.slice none 0 0, .bool false]) (by simp [results, Try.results53, go_sem]) rfl ?_
            rw [hno.out]
            exact FieldsPost.no HBW.out
          · have HP2 : Hid (partF (.mk c ks) xs (i + 1) = some (fs ++ [.mk (fn, fb) fk])) := Lib.hid (by rw [HST.out, HP.out, hs0]; rfl)
            have HY := Lib.hid ((OwnT.fresh (t := .mk (fn, fb) fk) (s := (p, m, c')) O0w.out (Nat.le_refl _) (fun b hb => Nat.le_trans HW5.out hb) (show RowT encFd (fun b => W5.heap.size ≤ b) w6 (.slice p m c') fk from hrow)).move (bel2 w6 (.cells #[.int .u64 (fn : Int), .string (mkS fb), .slice p m c'] 64) (.cells #[.int .u64 (fn : Int), .string (mkS fb), .slice p m c'] 64)) (Nat.le_refl _))
            have R11 := Lib.hid (RowAt.new (w6.alloc (.cells #[.int .u64 (fn : Int), .string (mkS fb), .slice p m c'] 64)) #[.int .u64 (fn : Int), .string (mkS fb), .slice p m c'] 64)
            have O8 := Lib.hid (O.out.below (bel1 (w6.alloc (.cells #[.int .u64 (fn : Int), .string (mkS fb), .slice p m c'] 64)) (.cells #[.int .u64 (fn : Int), .string (mkS fb), .slice p m c'] 64)) (Nat.le_refl _))
            have HB8 := Lib.hid (HBW.out.trans ((bel1 (w6.alloc (.cells #[.int .u64 (fn : Int), .string (mkS fb), .slice p m c'] 64)) (.cells #[.int .u64 (fn : Int), .string (mkS fb), .slice p m c'] 64)).mono HBW.out.size))
            have R28 := Lib.hid (R2.out.alloc (.cells #[.int .u64 (fn : Int), .string (mkS fb), .slice p m c'] 64))
            have HSZ2 : Hid (w.heap.size + 2 ≤ ((w6.alloc (.cells #[.int .u64 (fn : Int), .string (mkS fb), .slice p m c'] 64)).alloc (.cells #[.int .u64 (fn : Int), .string (mkS fb), .slice p m c'] 64)).heap.size) := Lib.hid (by have := HW5.out; have := HS6.out; simp; omega)
            clear hs0 hrow HC HST HP HKALL O HBW O0w
            generalize w6.alloc (.cells #[.int .u64 (fn : Int), .string (mkS fb), .slice p m c'] 64) = w7 at *
            generalize w6.heap.size = k10 at *
            obtain ⟨y0, y1, y2, yf0, yf1, yf2⟩ := R10.out.c3
            go_upto_region 14 with (at_builtin; refine wpList_append_tree (E := encFd) (A := fun b => w.heap.size + 2 ≤ b) Try.underlying60 info_field rfl (by omega) rfl _ _ rfl (w.heap.size + 2) _ fs rfl O8.out ⟨w7.heap.size, 0, none⟩ (.mk (fn, fb) fk) ((fn, fb), p, m, c') rfl (lit_cells R11.out rfl) HY.out (by have := HXL.out; omega) HSZ2.out ?_)
            intro v' w' ho hg hbb hz
            have hl2 : (fs ++ [Tr.mk (fn, fb) fk]).length = i + 1 := by simp [HXL.out]
            obtain ⟨po', co', e, _, _⟩ := OwnT.shape ho
            rw [hl2] at e
            subst e
            have hbk := hbb _ (Below.refl _ _)
            have R2' := Lib.hid (R28.out.below hbk (by omega))
            have HB' := Lib.hid (HB8.out.trans (hbk.mono (by omega)))
            have O' := Lib.hid ho
            have HWS' : Hid (w.heap.size + 2 ≤ w'.heap.size) := Lib.hid (Nat.le_trans HSZ2.out hbk.size)
            clear ho hg hbb hz hbk R2 R28 HB8 O8 y0 y1 y2 yf0 yf1 yf2
            generalize fs ++ [Tr.mk (fn, fb) fk] = fs2 at *
            have HL2 := Lib.hid hl2
            clear hl2
            go_wp2
            exact ⟨⟨i + 1, fs2, po', co', by omega, HL2.out, rfl, by simp, HP2, O', R2', HB', HWS'⟩, by simp [intOf]; omega⟩
        · obtain rfl : i = ks.length := by omega
          have hfin := HRES.out
          rw [if_pos (by exact ⟨by trivial, FIT.out⟩), HP.out] at hfin
          have HF := Lib.hid hfin
          have HI := Lib.hid (show RowT encFd (fun b => w.heap.size + 2 ≤ b) wr (.slice po ks.length co) fs from O.out.row (fun b hb => hb))
          clear hfin HP HRES O
          go_wp2
          refine bodyPost_ret (v := .tuple #[.slice po ks.length co, .bool true]) (by simp [results, Try.results53, go_sem]) rfl ?_
          rw [HF.out]
          exact ⟨po, _, co, true, rfl, HB.out, .inr ⟨fs, rfl, rfl, HI.out.weaken (fun b hb => by omega)⟩⟩
end Go.Proofs.Ytefmlbckbhlgdaa
namespace Go.Proofs.Ytefmlbckbhlgdaa
open Go.RowKit
theorem field_any : ∀ (n : Nat) (k : Kd), k.count ≤ n → n ≤ 1000 → kOk k → FieldC k
  | 0, .mk c ks, h, _, _ => by rw [Tr.count] at h; omega
  | n + 1, .mk c ks, h, hn, hk => by
    rw [Tr.count] at h
    have hl := counts_len ks
    refine field_of c ks (fields_of c ks hk (by omega) (fun kd hkd => ?_))
    have := counts_mem hkd
    rw [kOk] at hk
    exact field_any n kd (by omega) (by omega) (ksOk_mem hk.2 kd hkd)
theorem fields_any {ks : List Kd} (hk : ksOk ks) (hc : counts ks ≤ 40) : FieldsC (.mk 40 ks) := by
  have hl := counts_len ks
  refine fields_of 40 ks (by rw [kOk]; exact ⟨.inr (.inl rfl), hk⟩) (by omega) (fun kd hkd => ?_)
  have := counts_mem hkd
  exact field_any 40 kd (by omega) (by omega) (ksOk_mem hk kd hkd)

/-! ### Numbers that are read are of 64 bits -/
theorem value_lt (x : It) : x.value.1 < 18446744073709551616 := by
  obtain ⟨l, b, ks⟩ := x
  rw [It.value]
  split
  · simp
  · rename_i h
    simp only [Bool.or_eq_true, decide_eq_true_eq, not_or] at h
    have h8 : b.length ≤ 8 := by have := h.1.2; omega
    have := valL_lt _ b rfl
    have : 256 ^ b.length ≤ 256 ^ 8 := Nat.pow_le_pow_right (by omega) h8
    show valL b < _
    omega
theorem fsOk_mapM {g : It → Option Fd} : ∀ {l : List It} {fs : List Fd}, (∀ x ∈ l, ∀ f, g x = some f → fOk f) → l.mapM g = some fs → fsOk fs
  | [], fs, _, h => by simp at h; subst h; trivial
  | a :: l, fs, hg, h => by
    rw [List.mapM_cons] at h
    simp only [Option.bind_eq_bind, Option.bind_eq_some_iff, Option.pure_def, Option.some.injEq] at h
    obtain ⟨x, h1, ys, h2, rfl⟩ := h
    rw [fsOk]
    exact ⟨hg a (by simp) x h1, fsOk_mapM (fun f hf => hg f (by simp [hf])) h2⟩
mutual
theorem fieldK_ok : ∀ (k : Kd) (x : It) (f : Fd), fieldK k x = some f → fOk f
  | .mk c ks, .mk l b xs, f, h => by
    rw [fieldK] at h
    split at h
    · split at h
      · injection h with h
        subst h
        rw [fOk]
        exact ⟨value_lt _, trivial⟩
      · cases h
    · split at h
      · split at h
        · obtain ⟨fs, h1, rfl⟩ := Option.map_eq_some_iff.1 h
          rw [fOk]
          exact ⟨by simp, starF_ok ks xs fs h1⟩
        · cases h
      · split at h
        · split at h
          · obtain ⟨fs, h1, rfl⟩ := Option.map_eq_some_iff.1 h
            rw [fOk]
            exact ⟨by simp, rowF_ok ks xs fs h1⟩
          · cases h
        · split at h
          · cases h
          · injection h with h
            subst h
            rw [fOk]
            exact ⟨by simp, trivial⟩
theorem starF_ok : ∀ (ks : List Kd) (xs : List It) (fs : List Fd), starF ks xs = some fs → fsOk fs
  | [], xs, fs, h => by rw [starF] at h; cases h
  | k :: ks, xs, fs, h => by
    rw [starF] at h
    exact fsOk_mapM (fun x _ f hf => fieldK_ok k x f hf) h
theorem rowF_ok : ∀ (ks : List Kd) (xs : List It) (fs : List Fd), rowF ks xs = some fs → fsOk fs
  | [], [], fs, h => by rw [rowF] at h; injection h with h; subst h; trivial
  | k :: ks, x :: xs, fs, h => by
    rw [rowF] at h
    obtain ⟨f, h1, h2⟩ := Option.bind_eq_some_iff.1 h
    obtain ⟨ys, h3, rfl⟩ := Option.map_eq_some_iff.1 h2
    rw [fsOk]
    exact ⟨fieldK_ok k x f h1, rowF_ok ks xs ys h3⟩
  | [], _ :: _, fs, h => by rw [rowF] at h; cases h
  | _ :: _, [], fs, h => by rw [rowF] at h; cases h
end
theorem fieldsT_ok {k : Kd} {x : It} {l : List Fd} (h : fieldsT k x = some l) : fsOk l := by
  obtain ⟨c, ks⟩ := k
  obtain ⟨l', b, xs⟩ := x
  rw [fieldsT] at h
  split at h
  · split at h
    · exact starF_ok ks xs l h
    · exact rowF_ok ks xs l h
  · cases h

theorem FieldsPost.none_of {w w' : World} {e : Ending} (h : FieldsPost none w e w') : ∃ p m c, e = .returned (.tuple #[.slice p m c, .bool false]) ∧ Below w.heap.size w w' := by
  obtain ⟨p, m, c, is, rfl, hb, h'⟩ := h
  rcases h' with ⟨_, rfl⟩ | ⟨_, h', _⟩
  · exact ⟨p, m, c, rfl, hb⟩
  · cases h'
theorem FieldsPost.some_of {w w' : World} {e : Ending} {l : List Fd} (h : FieldsPost (some l) w e w') : ∃ p m c, e = .returned (.tuple #[.slice p m c, .bool true]) ∧ Below w.heap.size w w' ∧ RowT encFd (fun b => w.heap.size ≤ b) w' (.slice p m c) l := by
  obtain ⟨p, m, c, is, rfl, hb, h'⟩ := h
  rcases h' with ⟨h', _⟩ | ⟨l', h', rfl, hr⟩
  · cases h'
  · injection h' with h'
    subst h'
    exact ⟨p, m, c, rfl, hb, hr⟩
theorem mkS_bl (s : ByteArray) : mkS (bl s) = s := bl_inj (by rw [bl_mk])

/-- How the reading of bytes by a form ends. -/
def FReadPost (r : List Fd × Int) (w : World) (e : Ending) (w' : World) : Prop :=
  ∃ (p : Option Addr) (m c : Nat), e = .returned (.tuple #[.slice p m c, .int .i64 r.2]) ∧ RowT encFd (fun b => w.heap.size ≤ b) w' (.slice p m c) r.1 ∧ Below w.heap.size w w'

set_option maxRecDepth 100000 in
set_option maxHeartbeats 2000000 in
theorem fread_any (f s : ByteArray) (w : World) (hf : f.size ≤ 1000) (hs : s.size ≤ 4100) :
    Calls Try.prog 24 #[.string f, .string s] w (FReadPost (readF (bl f) (bl s)) w) := by
  have KK := Lib.hid (fun W => kinds_any f W hf)
  have HF := Lib.hid hf
  have KD := Lib.hid (fun W => decode_any s W hs)
  cases hk : kindsL (bl f) with
  | none =>
    have HR : Hid (readF (bl f) (bl s) = ([], 1)) := Lib.hid (by unfold readF; rw [hk])
    generalize readF (bl f) (bl s) = r at *
    rw [hk] at KK
    clear hf hs hk
    go_enter Try.func24, Try.ntmps24
    go_wp2_with (go_at_call 51; refine (KK.out _).mono ?_; rintro e w1 ⟨v, rfl, -, ⟨p1, n1, c1, rfl⟩, hb⟩; have HB1 := Lib.hid hb; clear hb)
    refine bodyPost_ret (v := .tuple #[.slice none 0 0, .int .i64 1]) (by simp [results, Try.results24, go_sem]) rfl ?_
    rw [HR.out]
    exact ⟨_, _, _, rfl, RowT.nil, HB1.out⟩
  | some ks =>
    rw [hk] at KK
    by_cases hd : (decL (bl s)).2 ≠ 0
    · have HR : Hid (readF (bl f) (bl s) = ([], (decL (bl s)).2)) := Lib.hid (by unfold readF; simp only [hk, if_pos hd])
      generalize readF (bl f) (bl s) = r at *
      generalize decL (bl s) = d at *
      obtain ⟨x, e0⟩ := d
      simp only at hd HR
      have q : (e0 != 0) = true := by simpa using hd
      clear hf hs hk hd
      go_enter Try.func24, Try.ntmps24
      go_wp2_with (first
        | (go_at_call 51; refine (KK.out _).mono ?_; rintro e w1 ⟨v, rfl, -, ⟨p1, n1, c1, rfl⟩, hb⟩; have HB1 := Lib.hid hb; clear hb)
        | (go_at_call 52; refine (KD.out _).mono ?_; rintro e w2 ⟨v, rfl, hv, hb⟩; obtain ⟨⟨yl, yb, yp, yn, yc⟩, rfl⟩ := hv.triple; simp only [IV.val, IV.kids] at hv ⊢; have HB2 := Lib.hid (HB1.out.trans (hb.mono HB1.out.size)); clear hb hv))
      refine bodyPost_ret (v := .tuple #[.slice none 0 0, .int .i64 e0]) (by simp [results, Try.results24, go_sem]) rfl ?_
      rw [HR.out]
      exact ⟨_, _, _, rfl, RowT.nil, HB2.out.alloc HB2.out.size _⟩
    · have hd0 : (decL (bl s)).2 = 0 := by simpa using hd
      have hen := decL_ok hd0
      have hsz : (decL (bl s)).1.size ≤ 100000 := by
        have := (enc_ok (x := (decL (bl s)).1) (by rw [hen])).2.2.2.1
        omega
      have HRR : Hid (readF (bl f) (bl s) = (match fieldsT (.mk 40 ks) (decL (bl s)).1 with
        | none => ([], 4)
        | some l => if writeF (bl f) l = (bl s, 0) then (l, 0) else ([], 4))) := Lib.hid (by unfold readF; simp only [hk, if_neg hd]; cases fieldsT (.mk 40 ks) (decL (bl s)).1 <;> rfl)
      have HFA := Lib.hid (fields_any (kindsL_ok hk) (kindsL_count hk))
      generalize readF (bl f) (bl s) = r at *
      generalize decL (bl s) = d at *
      obtain ⟨x, e0⟩ := d
      simp only at hd0 HRR hsz
      subst hd0
      have HSZ := Lib.hid hsz
      clear hs hk hd hsz hen
      cases hft : fieldsT (.mk 40 ks) x with
      | none =>
        have HR : Hid (r = ([], 4)) := Lib.hid (by rw [HRR.out, hft])
        have HFT := Lib.hid hft
        clear HRR hft hf
        go_enter Try.func24, Try.ntmps24
        go_wp2_with (first
          | (go_at_call 51; refine (KK.out _).mono ?_; rintro e w1 ⟨v, rfl, hrow, ⟨p1, n1, c1, rfl⟩, hb⟩; have HRW := Lib.hid (hrow ks rfl); have HB1 := Lib.hid hb; clear hb hrow)
          | (go_at_call 52; refine (KD.out _).mono ?_; rintro e w2 ⟨v, rfl, hv, hb⟩; obtain ⟨⟨yl, yb, yp, yn, yc⟩, rfl⟩ := hv.triple; simp only [IV.val, IV.kids] at hv ⊢; have HRW2 := Lib.hid (RowT.below HRW.out (hb.alloc hb.size (.cells #[.bool yl, .string yb, .slice yp yn yc] 98)) (Nat.le_refl _)); have HI := Lib.hid (ItemIs.below (bel1 w2 (.cells #[.bool yl, .string yb, .slice yp yn yc] 98)) (Nat.le_refl _) _ _ (ItemP.is _ _ hv)); have R2 := Lib.hid (RowAt.new w2 #[.bool yl, .string yb, .slice yp yn yc] 98); obtain ⟨a0, a1, a2, af0, af1, af2⟩ := R2.out.c3; have HB2 := Lib.hid (HB1.out.trans ((hb.alloc hb.size (.cells #[.bool yl, .string yb, .slice yp yn yc] 98)).mono HB1.out.size)); clear hb hv)
          | (go_at_call 53; refine (HFA.out (p1, n1, c1) x _ _ HSZ.out (RowT.weaken (fun _ _ => trivial) HRW2.out) HI.out).mono ?_; intro e w3 hpost; rw [HFT.out] at hpost; obtain ⟨p', n', c', rfl, hb⟩ := hpost.none_of; have HB3 := Lib.hid (HB2.out.trans (hb.mono HB2.out.size)); clear hb hpost))
        refine bodyPost_ret (v := .tuple #[.slice none 0 0, .int .i64 4]) (by simp [results, Try.results24, go_sem]) rfl ?_
        rw [HR.out]
        exact ⟨_, _, _, rfl, RowT.nil, HB3.out⟩
      | some l =>
        have HFT := Lib.hid hft
        have HOK := Lib.hid (fieldsT_ok hft)
        have HRR2 : Hid (r = if writeF (bl f) l = (bl s, 0) then (l, 0) else ([], 4)) := Lib.hid (by rw [HRR.out, hft])
        have KW : Hid (∀ v W, RowT encFd (fun _ => True) W v l → Calls Try.prog 54 #[.string f, v] W fun e w' => e = .returned (.tuple #[.string (mkS (writeF (bl f) l).1), .int .i64 (writeF (bl f) l).2]) ∧ Below W.heap.size W w') := Lib.hid (fun v W h => fwrite_any f v l W hf HOK.out h)
        generalize writeF (bl f) l = wr at *
        obtain ⟨wb, we⟩ := wr
        simp only at KW HRR2
        clear HRR hft hf
        by_cases h1 : we = 0
        · have q1 : (we != 0) = false := by simp [h1]
          by_cases h2 : wb = bl s
          · have HR : Hid (r = (l, 0)) := Lib.hid (by rw [HRR2.out, if_pos (by rw [h1, h2])])
            subst h2
            rw [mkS_bl] at KW
            clear h1 HRR2
            go_enter Try.func24, Try.ntmps24
            go_wp2_with (first | (go_at_call 51; refine (KK.out _).mono ?_; rintro e w1 ⟨v, rfl, hrow, ⟨p1, n1, c1, rfl⟩, hb⟩; have HRW := Lib.hid (hrow ks rfl); have HB1 := Lib.hid hb; clear hb hrow) | (go_at_call 52; refine (KD.out _).mono ?_; rintro e w2 ⟨v, rfl, hv, hb⟩; obtain ⟨⟨yl, yb, yp, yn, yc⟩, rfl⟩ := hv.triple; simp only [IV.val, IV.kids] at hv ⊢; have HRW2 := Lib.hid (RowT.below HRW.out (hb.alloc hb.size (.cells #[.bool yl, .string yb, .slice yp yn yc] 98)) (Nat.le_refl _)); have HI := Lib.hid (ItemIs.below (bel1 w2 (.cells #[.bool yl, .string yb, .slice yp yn yc] 98)) (Nat.le_refl _) _ _ (ItemP.is _ _ hv)); have R2 := Lib.hid (RowAt.new w2 #[.bool yl, .string yb, .slice yp yn yc] 98); obtain ⟨a0, a1, a2, af0, af1, af2⟩ := R2.out.c3; have HB2 := Lib.hid (HB1.out.trans ((hb.alloc hb.size (.cells #[.bool yl, .string yb, .slice yp yn yc] 98)).mono HB1.out.size)); clear hb hv) | (go_at_call 53; refine (HFA.out (p1, n1, c1) x _ _ HSZ.out (RowT.weaken (fun _ _ => trivial) HRW2.out) HI.out).mono ?_; intro e w3 hpost; rw [HFT.out] at hpost; obtain ⟨p', n', c', rfl, hb, hrow⟩ := hpost.some_of; have HB3 := Lib.hid (HB2.out.trans (hb.mono HB2.out.size)); have HRW4 := Lib.hid hrow; clear hb hpost hrow a0 a1 a2 af0 af1 af2) | (go_at_call 54; refine (KW.out _ _ (RowT.weaken (fun _ _ => trivial) HRW4.out)).mono ?_; rintro e w4 ⟨rfl, hb⟩; have HB34 := Lib.hid hb; have HB4 := Lib.hid (HB3.out.trans (hb.mono HB3.out.size)); clear hb))
            refine bodyPost_ret (v := .tuple #[.slice p' n' c', .int .i64 0]) (by simp [results, Try.results24, go_sem]) rfl ?_
            rw [HR.out]
            exact ⟨_, _, _, rfl, (RowT.below HRW4.out HB34.out (Nat.le_refl _)).weaken (fun b hb => Nat.le_trans HB2.out.size hb), HB4.out⟩
          · have HR : Hid (r = ([], 4)) := Lib.hid (by rw [HRR2.out, if_neg (fun h => h2 (by injection h))])
            have q2 : ((mkS wb).toList == s.toList) = false := beq_eq_false_iff_ne.2 (fun h => h2 (by rw [toList_bl, toList_bl, bl_mk] at h; exact h))
            clear h1 h2 HRR2
            go_enter Try.func24, Try.ntmps24
            go_wp2_with (first | (go_at_call 51; refine (KK.out _).mono ?_; rintro e w1 ⟨v, rfl, hrow, ⟨p1, n1, c1, rfl⟩, hb⟩; have HRW := Lib.hid (hrow ks rfl); have HB1 := Lib.hid hb; clear hb hrow) | (go_at_call 52; refine (KD.out _).mono ?_; rintro e w2 ⟨v, rfl, hv, hb⟩; obtain ⟨⟨yl, yb, yp, yn, yc⟩, rfl⟩ := hv.triple; simp only [IV.val, IV.kids] at hv ⊢; have HRW2 := Lib.hid (RowT.below HRW.out (hb.alloc hb.size (.cells #[.bool yl, .string yb, .slice yp yn yc] 98)) (Nat.le_refl _)); have HI := Lib.hid (ItemIs.below (bel1 w2 (.cells #[.bool yl, .string yb, .slice yp yn yc] 98)) (Nat.le_refl _) _ _ (ItemP.is _ _ hv)); have R2 := Lib.hid (RowAt.new w2 #[.bool yl, .string yb, .slice yp yn yc] 98); obtain ⟨a0, a1, a2, af0, af1, af2⟩ := R2.out.c3; have HB2 := Lib.hid (HB1.out.trans ((hb.alloc hb.size (.cells #[.bool yl, .string yb, .slice yp yn yc] 98)).mono HB1.out.size)); clear hb hv) | (go_at_call 53; refine (HFA.out (p1, n1, c1) x _ _ HSZ.out (RowT.weaken (fun _ _ => trivial) HRW2.out) HI.out).mono ?_; intro e w3 hpost; rw [HFT.out] at hpost; obtain ⟨p', n', c', rfl, hb, hrow⟩ := hpost.some_of; have HB3 := Lib.hid (HB2.out.trans (hb.mono HB2.out.size)); have HRW4 := Lib.hid hrow; clear hb hpost hrow a0 a1 a2 af0 af1 af2) | (go_at_call 54; refine (KW.out _ _ (RowT.weaken (fun _ _ => trivial) HRW4.out)).mono ?_; rintro e w4 ⟨rfl, hb⟩; have HB34 := Lib.hid hb; have HB4 := Lib.hid (HB3.out.trans (hb.mono HB3.out.size)); clear hb))
            refine bodyPost_ret (v := .tuple #[.slice none 0 0, .int .i64 4]) (by simp [results, Try.results24, go_sem]) rfl ?_
            rw [HR.out]
            exact ⟨_, _, _, rfl, RowT.nil, HB4.out⟩
        · have HR : Hid (r = ([], 4)) := Lib.hid (by rw [HRR2.out, if_neg (fun h => h1 (by injection h))])
          have q1 : (we != 0) = true := by simp [h1]
          clear h1 HRR2
          go_enter Try.func24, Try.ntmps24
          go_wp2_with (first | (go_at_call 51; refine (KK.out _).mono ?_; rintro e w1 ⟨v, rfl, hrow, ⟨p1, n1, c1, rfl⟩, hb⟩; have HRW := Lib.hid (hrow ks rfl); have HB1 := Lib.hid hb; clear hb hrow) | (go_at_call 52; refine (KD.out _).mono ?_; rintro e w2 ⟨v, rfl, hv, hb⟩; obtain ⟨⟨yl, yb, yp, yn, yc⟩, rfl⟩ := hv.triple; simp only [IV.val, IV.kids] at hv ⊢; have HRW2 := Lib.hid (RowT.below HRW.out (hb.alloc hb.size (.cells #[.bool yl, .string yb, .slice yp yn yc] 98)) (Nat.le_refl _)); have HI := Lib.hid (ItemIs.below (bel1 w2 (.cells #[.bool yl, .string yb, .slice yp yn yc] 98)) (Nat.le_refl _) _ _ (ItemP.is _ _ hv)); have R2 := Lib.hid (RowAt.new w2 #[.bool yl, .string yb, .slice yp yn yc] 98); obtain ⟨a0, a1, a2, af0, af1, af2⟩ := R2.out.c3; have HB2 := Lib.hid (HB1.out.trans ((hb.alloc hb.size (.cells #[.bool yl, .string yb, .slice yp yn yc] 98)).mono HB1.out.size)); clear hb hv) | (go_at_call 53; refine (HFA.out (p1, n1, c1) x _ _ HSZ.out (RowT.weaken (fun _ _ => trivial) HRW2.out) HI.out).mono ?_; intro e w3 hpost; rw [HFT.out] at hpost; obtain ⟨p', n', c', rfl, hb, hrow⟩ := hpost.some_of; have HB3 := Lib.hid (HB2.out.trans (hb.mono HB2.out.size)); have HRW4 := Lib.hid hrow; clear hb hpost hrow a0 a1 a2 af0 af1 af2) | (go_at_call 54; refine (KW.out _ _ (RowT.weaken (fun _ _ => trivial) HRW4.out)).mono ?_; rintro e w4 ⟨rfl, hb⟩; have HB34 := Lib.hid hb; have HB4 := Lib.hid (HB3.out.trans (hb.mono HB3.out.size)); clear hb))
          refine bodyPost_ret (v := .tuple #[.slice none 0 0, .int .i64 4]) (by simp [results, Try.results24, go_sem]) rfl ?_
          rw [HR.out]
          exact ⟨_, _, _, rfl, RowT.nil, HB4.out⟩
end Go.Proofs.Ytefmlbckbhlgdaa
namespace Go.Proofs.Ytefmlbckbhlgdaa
open Go.RowKit
theorem QueueF.grow {w wr w' : World} {v v' : Value} {xs : List (EV (Nat × List UInt8))} {ts : List Fd} {x : EV (Nat × List UInt8)} {t : Fd} (h : QueueF w wr v xs ts) (ho : OwnE encFd.enc 64 w' w.heap.size v' (xs ++ [x])) (ht : TreeP encFd (fun _ => True) w t x) : QueueF w w' v' (xs ++ [x]) (ts ++ [t]) := by
  refine ⟨by rw [List.length_append, List.length_append, h.1]; rfl, ho, fun j t' x' h1 h2 => ?_⟩
  have hl := h.1
  by_cases hj : j < xs.length
  · rw [List.getElem?_append_left hj] at h2
    rw [List.getElem?_append_left (by omega)] at h1
    exact h.2.2 j t' x' h1 h2
  · rw [List.getElem?_append_right (by omega)] at h2
    rw [List.getElem?_append_right (by omega)] at h1
    rw [← hl] at h1
    cases hj' : j - xs.length with
    | zero => rw [hj'] at h1 h2; simp at h1 h2; subst h1 h2; exact ht
    | succ n => rw [hj'] at h1; simp at h1

end Go.Proofs.Ytefmlbckbhlgdaa
namespace Go.Proofs.Ytefmlbckbhlgdaa
open Go.RowKit
end Go.Proofs.Ytefmlbckbhlgdaa
namespace Go.Proofs.Ytefmlbckbhlgdaa
open Go.RowKit Go.ChangeShapes Go.WideShapes Go.ChangeAt
set_option maxRecDepth 100000
/-- Two fields in a block of the call's own. -/
theorem RowT.two {A : Nat → Prop} {w : World} {t1 t2 : Fd} {s1 s2 : Sl} {g : Nat} {cs : Array Value} {T : TypeId} (hg : w.heap[g]? = some (.cells cs T (0, 0))) (hcs : cs.toList = encFd.pre t1.val ++ [slV s1] ++ (encFd.pre t2.val ++ [slV s2])) (hA : A g) (h1 : RowT encFd A w (slV s1) t1.kids) (h2 : RowT encFd A w (slV s2) t2.kids) :
    RowT encFd A w (.slice (some ⟨g, 0, none⟩) 2 2) [t1, t2] := by
  refine ⟨[(t1.val, s1), (t2.val, s2)], rfl, .inr ⟨⟨g, 0, none⟩, 2, rfl, Nat.le_refl _, by unfold maxLen; omega, fun j u hj => ?_⟩, fun _ ad n c e => by injection e with e _ _; injection e with e; subst e; exact hA, fun i t x e1 e2 => ?_⟩
  · have e : flat encFd.enc [(t1.val, s1), (t2.val, s2)] = cs.toList := by rw [hcs]; rfl
    rw [e, Array.getElem?_toList] at hj
    have : w.cell? ⟨g, j, none⟩ = cs[j]? := cell_of_row w g j cs T _ hg
    rw [← hj, ← this]
    cases j <;> simp [Addr.add]
  · match i, e1, e2 with
    | 0, e1, e2 =>
      simp at e1 e2
      subst e1 e2
      cases t1 with
      | mk a ks => exact RowT.node a h1
    | 1, e1, e2 =>
      simp at e1 e2
      subst e1 e2
      cases t2 with
      | mk a ks => exact RowT.node a h2
    | i + 2, e1, e2 => simp at e1

end Go.Proofs.Ytefmlbckbhlgdaa

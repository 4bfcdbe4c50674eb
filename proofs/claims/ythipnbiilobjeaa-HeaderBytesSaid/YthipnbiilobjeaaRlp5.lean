/- Rlp: contracts of the program: deep. Rlp: a queue of items: the call's own row of cells, three an item. Rlp: contracts of the reference: Depth. Rlp: contracts of the reference: pure. -/
import Derived.Test.YthipnbiilobjeaaRlpI
import Derived.Deep.SlicePairs
import Derived.Laws.AppendOwnNone
namespace Go.Proofs.Ythipnbiilobjeaa
open Go.RowKit
set_option maxRecDepth 100000

theorem It.size_pos : ∀ x : It, 1 ≤ x.size
  | .mk l b ks => by rw [It.size]; omega

mutual
theorem It.depth_le : ∀ x : It, x.depth ≤ x.size
  | .mk l b ks => by
    rw [It.depth, It.size]
    have := depths_le ks
    split <;> omega
theorem depths_le : ∀ ks : List It, depths ks ≤ sizes ks
  | [] => by rw [depths, sizes]; exact Nat.le_refl _
  | k :: ks => by
    rw [depths, sizes]
    have := It.depth_le k
    have := depths_le ks
    omega
end

theorem depths_append : ∀ (xs ys : List It), depths (xs ++ ys) = max (depths xs) (depths ys)
  | [], ys => by rw [List.nil_append, depths]; omega
  | x :: xs, ys => by rw [List.cons_append, depths, depths, depths_append xs ys]; omega

theorem sizes_append : ∀ (xs ys : List It), sizes (xs ++ ys) = sizes xs + sizes ys
  | [], ys => by rw [List.nil_append, sizes]; omega
  | x :: xs, ys => by rw [List.cons_append, sizes, sizes, sizes_append xs ys]; omega

theorem sizes_get {ks : List It} {i : Nat} {k : It} (h : ks[i]? = some k) : k.size ≤ sizes ks := by
  obtain ⟨hi, rfl⟩ := List.getElem?_eq_some_iff.1 h
  have e : ks = ks.take i ++ (ks[i] :: ks.drop (i + 1)) := by rw [List.getElem_cons_drop, List.take_append_drop]
  have := congrArg sizes e
  rw [sizes_append, sizes] at this
  omega

theorem pures_get : ∀ {ks : List It} {i : Nat} {k : It}, pures ks → ks[i]? = some k → k.pure
  | [], i, k, _, h => by simp at h
  | x :: ks, 0, k, hp, h => by simp at h; subst h; exact hp.1
  | x :: ks, i + 1, k, hp, h => pures_get hp.2 (by simpa using h)

theorem depths_take {ks : List It} {i : Nat} {k : It} (h : ks[i]? = some k) : depths (ks.take (i + 1)) = max (depths (ks.take i)) k.depth := by
  rw [List.take_add_one, h, depths_append]
  simp [depths]

abbrev itemO (l : Bool) (b : ByteArray) (kv : Value) : Obj := .cells #[.bool l, .string b, kv] 65

set_option maxHeartbeats 1000000 in
theorem deep_any : ∀ (n : Nat) (x : It), x.size ≤ n → x.pure → x.size ≤ 1000000 → ∀ (v : Value) (w : World), ItemIs w x v →
    Calls Try.prog 75 #[v] w fun e w' => e = .returned (.int .i64 x.depth) ∧ Below w.heap.size w w'
  | 0, x, h, _, _, _, _, _ => by have := x.size_pos; omega
  | n + 1, .mk l b ks, hsz, hp, hs, v, w, hv => by
    obtain ⟨kv, rfl, hbz, hk⟩ := itemIs_iff.1 hv
    have KI := Lib.hid (deep_any n)
    clear hv
    cases l with
    | false =>
      obtain rfl := hp.2.1 rfl
      have L : Hid (RowAt (w.alloc (itemO false (mkS b) kv)) w.heap.size #[.bool false, .string (mkS b), kv] 65) := Lib.hid (RowAt.new _ _ _)
      have B : Hid (Below w.heap.size w (w.alloc (itemO false (mkS b) kv))) := Lib.hid ((Below.refl _ _).alloc (Nat.le_refl _) _)
      have E : Hid ((It.mk false b []).depth = 0) := Lib.hid (by simp [It.depth, depths])
      obtain ⟨p, cap, rfl, _⟩ := hk.parts
      clear hk hp hsz hs
      obtain ⟨a0, a1, a2, af0, af1, af2⟩ := L.out.c3
      go_enter Try.func75, Try.ntmps75
      go_wp2
      go_ret
      rw [E.out]
      exact ⟨rfl, B.out⟩
    | true =>
      obtain ⟨p, cap, rfl, h1, h2, hg⟩ := hk.parts
      rw [It.size] at hsz hs
      have hdl := depths_le ks
      have HG := Lib.hid hg
      have HS := Lib.hid (fun i k (h : ks[i]? = some k) => (⟨by have := sizes_get h; omega, pures_get hp.2.2 h, by have := sizes_get h; omega⟩ : k.size ≤ n ∧ k.pure ∧ k.size ≤ 1000000))
      have HD := Lib.hid (fun i k (h : ks[i]? = some k) => depths_take h)
      have E : Hid ((It.mk true b ks).depth = depths (ks.take ks.length) + 1) := Lib.hid (by simp [It.depth])
      have HL := Lib.hid (fun i => (by have := depths_le (ks.take i); have h := congrArg sizes (List.take_append_drop i ks); rw [sizes_append] at h; omega : depths (ks.take i) ≤ 1000000))
      have L : Hid (RowAt (w.alloc (itemO true (mkS b) (.slice p ks.length cap))) w.heap.size #[.bool true, .string (mkS b), .slice p ks.length cap] 65) := Lib.hid (RowAt.new _ _ _)
      have B : Hid (Below w.heap.size w (w.alloc (itemO true (mkS b) (.slice p ks.length cap)))) := Lib.hid ((Below.refl _ _).alloc (Nat.le_refl _) _)
      have D0 : Hid (depths (ks.take 0) = 0) := Lib.hid (by simp [depths])
      clear hk hp hsz hs hg hdl hbz
      generalize hm : ks.length = m at *
      have HM := Lib.hid hm
      clear hm
      obtain ⟨a0, a1, a2, af0, af1, af2⟩ := L.out.c3
      go_enter Try.func75, Try.ntmps75
      go_wp2
      go_loopw [3, 12] (fun d i wr => ∃ k : Nat, k ≤ m ∧ i = .int .i64 k ∧ d = .int .i64 (depths (ks.take k)) ∧ Below w.heap.size w wr) (fun _ i _ => m - (intOf i).toNat)
      case atStart => exact ⟨0, Nat.zero_le _, rfl, by rw [D0.out]; rfl, B.out⟩
      case round =>
        obtain ⟨k, hk, rfl, rfl, hbl⟩ := hrel
        have HB := Lib.hid hbl
        clear hbl L B
        by_cases hlt : k < m
        · obtain ⟨x, hx⟩ : ∃ x, ks[k]? = some x := ⟨_, List.getElem?_eq_getElem (by rw [HM.out]; exact hlt)⟩
          obtain ⟨a, l', b', p', n', c', rfl, c0, c1, c2, hi⟩ := HG.out k x hx
          obtain ⟨g1, g2, g3⟩ := HS.out k x hx
          have HX := Lib.hid (ItemIs.below HB.out (Nat.le_refl _) _ _ hi)
          have q0 : wr.cell? (a.add (k * 3)) = some (.bool l') := by rw [HB.out.cell (block_lt_of_cell c0)]; exact c0
          have q1 : wr.cell? ⟨(a.add (k * 3)).block, (a.add (k * 3)).off + 1, none⟩ = some (.string b') := by
            have e : (⟨(a.add (k * 3)).block, (a.add (k * 3)).off + 1, none⟩ : Addr) = a.add (k * 3 + 1) := by rw [← Go.Deep.add_add]; rfl
            rw [e, HB.out.cell (block_lt_of_cell c1)]
            exact c1
          have q2 : wr.cell? ⟨(a.add (k * 3)).block, (a.add (k * 3)).off + 2, none⟩ = some (.slice p' n' c') := by
            have e : (⟨(a.add (k * 3)).block, (a.add (k * 3)).off + 2, none⟩ : Addr) = a.add (k * 3 + 2) := by rw [← Go.Deep.add_add]; rfl
            rw [e, HB.out.cell (block_lt_of_cell c2)]
            exact c2
          clear hi c0 c1 c2
          have L : Hid (RowAt (wr.alloc (itemO l' b' (.slice p' n' c'))) wr.heap.size #[.bool l', .string b', (.slice p' n' c')] 65) := Lib.hid (RowAt.new _ _ _)
          replace HB := Lib.hid (HB.out.alloc HB.out.size (itemO l' b' (.slice p' n' c')))
          replace HX := Lib.hid (ItemIs.below ((Below.refl wr.heap.size wr).alloc (Nat.le_refl _) (itemO l' b' (.slice p' n' c'))) (Nat.le_refl _) _ _ HX.out)
          have HD1 := Lib.hid (HD.out k x hx)
          have hd1 := HL.out k
          have hd2 := HL.out (k + 1)
          obtain ⟨a0, a1, a2, af0, af1, af2⟩ := L.out.c3
          go_wp2_with fail
          refine (KI.out x g1 g2 g3 _ _ HX.out).mono ?_
          rintro e w2 ⟨rfl, hb⟩
          (replace HB := Lib.hid (HB.out.trans (hb.mono HB.out.size)); clear hb)
          rw [HD1.out] at hd2
          generalize depths (ks.take k) = d at *
          generalize x.depth = dx at *
          go_wp2_with fail
          go_roundw
          case rel => exact ⟨k + 1, by omega, by go_num, by rw [HD1.out]; go_num, HB.out⟩
          case measure => simp [intOf]; omega
        · obtain rfl : k = m := by omega
          have hd := HL.out k
          have E1 := Lib.hid E.out
          generalize depths (ks.take k) = d at *
          go_wp2
          go_ret
          rw [E1.out]
          exact ⟨by go_num, HB.out⟩
end Go.Proofs.Ythipnbiilobjeaa

namespace Go.Proofs.Ythipnbiilobjeaa
open Go.RowKit
set_option maxRecDepth 100000

/-- An item's three cells. -/
abbrev IV := Bool × ByteArray × (Option Addr × Nat × Nat)
def IV.kids (x : IV) : Value := .slice x.2.2.1 x.2.2.2.1 x.2.2.2.2
def cells3 (x : IV) : List Value := [.bool x.1, .string x.2.1, x.kids]
def IV.val (x : IV) : Value := .agg #[.bool x.1, .string x.2.1, x.kids]
def flat3 : List IV → List Value
  | [] => []
  | x :: l => cells3 x ++ flat3 l

theorem flat3_length : ∀ l : List IV, (flat3 l).length = l.length * 3
  | [] => rfl
  | x :: l => by rw [flat3, List.length_append, flat3_length l, List.length_cons]; simp [cells3]; omega

theorem flat3_append : ∀ l m : List IV, flat3 (l ++ m) = flat3 l ++ flat3 m
  | [], m => rfl
  | x :: l, m => by rw [List.cons_append, flat3, flat3, flat3_append l m, List.append_assoc]

theorem flat3_get : ∀ (l : List IV) (i : Nat) (x : IV), l[i]? = some x → (flat3 l)[i * 3]? = some (.bool x.1) ∧ (flat3 l)[i * 3 + 1]? = some (.string x.2.1) ∧ (flat3 l)[i * 3 + 2]? = some x.kids
  | [], i, x, h => by simp at h
  | y :: l, 0, x, h => by simp at h; subst h; exact ⟨rfl, rfl, rfl⟩
  | y :: l, i + 1, x, h => by
    obtain ⟨h1, h2, h3⟩ := flat3_get l i x (by simpa using h)
    have e : ∀ j, (flat3 (y :: l))[(i + 1) * 3 + j]? = (flat3 l)[i * 3 + j]? := fun j => by
      rw [flat3, List.getElem?_append_right (by simp [cells3]; omega)]
      congr 1
      simp [cells3]
      omega
    exact ⟨(e 0).trans h1, (e 1).trans h2, (e 2).trans h3⟩

theorem flat3_one : ∀ l : List IV, ∀ u ∈ flat3 l, u.oneCell' = true
  | [], u, h => by cases h
  | x :: l, u, h => by
    rw [flat3] at h
    rcases List.mem_append.1 h with h | h
    · simp only [cells3, List.mem_cons, List.not_mem_nil, or_false] at h
      rcases h with rfl | rfl | rfl <;> rfl
    · exact flat3_one l u h

/-- The items lie in the triples. -/
def QIs (w : World) : List It → List IV → Prop
  | [], [] => True
  | k :: q, x :: l => ItemIs w k x.val ∧ QIs w q l
  | _, _ => False

theorem QIs.length {w : World} : ∀ {q : List It} {l : List IV}, QIs w q l → q.length = l.length
  | [], [], _ => rfl
  | k :: q, x :: l, h => by rw [List.length_cons, List.length_cons, QIs.length h.2]
  | [], _ :: _, h => by cases h
  | _ :: _, [], h => by cases h

theorem QIs.append {w : World} {q' : List It} {l' : List IV} (h' : QIs w q' l') : ∀ {q : List It} {l : List IV}, QIs w q l → QIs w (q ++ q') (l ++ l')
  | [], [], _ => h'
  | k :: q, x :: l, h => ⟨h.1, QIs.append h' h.2⟩
  | [], _ :: _, h => by cases h
  | _ :: _, [], h => by cases h

theorem QIs.below {w w' : World} {B : Nat} (hb : Below B w w') (hB : w.heap.size ≤ B) : ∀ {q : List It} {l : List IV}, QIs w q l → QIs w' q l
  | [], [], _ => trivial
  | k :: q, x :: l, h => ⟨ItemIs.below hb hB k _ h.1, QIs.below hb hB h.2⟩
  | [], _ :: _, h => by cases h
  | _ :: _, [], h => by cases h

theorem QIs.get {w : World} : ∀ {q : List It} {l : List IV} {i : Nat} {k : It}, QIs w q l → q[i]? = some k → ∃ x, l[i]? = some x ∧ ItemIs w k x.val
  | k' :: q, x :: l, 0, k, h, hk => by simp at hk; subst hk; exact ⟨x, rfl, h.1⟩
  | k' :: q, x :: l, i + 1, k, h, hk => by
    obtain ⟨y, h1, h2⟩ := QIs.get (i := i) h.2 (by simpa using hk)
    exact ⟨y, by simpa using h1, h2⟩
  | [], _, i, k, _, hk => by simp at hk
  | _ :: _, [], _, _, h, _ => by cases h

/-- An item's triple. -/
theorem itemIs_val {w : World} {k : It} {v : Value} (h : ItemIs w k v) : ∃ x : IV, v = x.val := by
  obtain ⟨l, b, ks⟩ := k
  obtain ⟨kv, rfl, _, hk⟩ := itemIs_iff.1 h
  obtain ⟨p, cap, rfl, _⟩ := hk.parts
  exact ⟨(l, mkS b, p, ks.length, cap), rfl⟩

theorem KidsAt.list {w : World} {a : Addr} : ∀ (ks : List It) (i : Nat), KidsAt w ks a i → ∃ l : List IV, QIs w ks l ∧ ∀ j u, (flat3 l)[j]? = some u → w.cell? (a.add (i * 3 + j)) = some u
  | [], i, _ => ⟨[], trivial, fun j u h => by simp [flat3] at h⟩
  | k :: ks, i, h => by
    rw [KidsAt] at h
    obtain ⟨⟨v0, v1, v2, c0, c1, c2, hi⟩, ht⟩ := h
    obtain ⟨l, hl, hc⟩ := KidsAt.list ks (i + 1) ht
    obtain ⟨x, hx⟩ := itemIs_val hi
    have e := hx
    unfold IV.val at e
    injection e with e
    simp at e
    obtain ⟨rfl, rfl, rfl⟩ := e
    refine ⟨x :: l, ⟨by rw [← hx]; exact hi, hl⟩, fun j u hj => ?_⟩
    rw [flat3] at hj
    match j, hj with
    | 0, hj => simp [cells3] at hj; subst hj; exact c0
    | 1, hj => simp [cells3] at hj; subst hj; exact c1
    | 2, hj => simp [cells3] at hj; subst hj; exact c2
    | j + 3, hj =>
      have := hc j u (by simpa [cells3] using hj)
      rwa [show (i + 1) * 3 + j = i * 3 + (j + 3) by omega] at this
end Go.Proofs.Ythipnbiilobjeaa

namespace Go.Proofs.Ythipnbiilobjeaa
open Go.RowKit
set_option maxRecDepth 100000

set_option maxHeartbeats 1000000 in
theorem rdepth_any : ∀ (n : Nat) (x : It), x.size ≤ n → x.size ≤ 1000000 → ∀ (v : Value) (w : World), ItemIs w x v →
    Calls Try.prog 143 #[v] w fun e w' => e = .returned (.int .i64 x.depth) ∧ Below w.heap.size w w'
  | 0, x, h, _, _, _, _ => by have := x.size_pos; omega
  | n + 1, .mk l b ks, hsz, hs, v, w, hv => by
    obtain ⟨kv, rfl, hbz, hk⟩ := itemIs_iff.1 hv
    have KI := Lib.hid (rdepth_any n)
    clear hv
    obtain ⟨p, cap, rfl, h1, h2, hg⟩ := hk.parts
    rw [It.size] at hsz hs
    have hdl := depths_le ks
    have HG := Lib.hid hg
    have HS := Lib.hid (fun i k (h : ks[i]? = some k) => (⟨by have := sizes_get h; omega, by have := sizes_get h; omega⟩ : It.size k ≤ n ∧ It.size k ≤ 1000000))
    have HD := Lib.hid (fun i k (h : ks[i]? = some k) => depths_take h)
    have E : Hid ((It.mk l b ks).depth = depths (ks.take ks.length) + (if l = true then 1 else 0)) := Lib.hid (by simp [It.depth])
    have HL := Lib.hid (fun i => (by have := depths_le (ks.take i); have h := congrArg sizes (List.take_append_drop i ks); rw [sizes_append] at h; omega : depths (ks.take i) ≤ 1000000))
    have L : Hid (RowAt (w.alloc (itemO l (mkS b) (.slice p ks.length cap))) w.heap.size #[.bool l, .string (mkS b), .slice p ks.length cap] 65) := Lib.hid (RowAt.new _ _ _)
    have B : Hid (Below w.heap.size w (w.alloc (itemO l (mkS b) (.slice p ks.length cap)))) := Lib.hid ((Below.refl _ _).alloc (Nat.le_refl _) _)
    have D0 : Hid (depths (ks.take 0) = 0) := Lib.hid (by simp [depths])
    clear hk hsz hs hg hdl hbz
    generalize hm : ks.length = m at *
    have HM := Lib.hid hm
    clear hm
    obtain ⟨a0, a1, a2, af0, af1, af2⟩ := L.out.c3
    go_enter Try.func143, Try.ntmps143
    go_wp2
    go_loopw [3, 10] (fun d i wr => ∃ k : Nat, k ≤ m ∧ i = .int .i64 k ∧ d = .int .i64 (depths (ks.take k)) ∧ Below w.heap.size w wr ∧ RowAt wr w.heap.size #[.bool l, .string (mkS b), .slice p m cap] 65) (fun _ i _ => m - (intOf i).toNat)
    case atStart => exact ⟨0, Nat.zero_le _, rfl, by rw [D0.out]; rfl, B.out, L.out⟩
    case round =>
      obtain ⟨k, hk, rfl, rfl, hbl, hrow⟩ := hrel
      have HB := Lib.hid hbl
      have R := Lib.hid hrow
      clear hbl hrow L B
      by_cases hlt : k < m
      · obtain ⟨x, hx⟩ : ∃ x, ks[k]? = some x := ⟨_, List.getElem?_eq_getElem (by rw [HM.out]; exact hlt)⟩
        obtain ⟨a, l', b', p', n', c', rfl, c0, c1, c2, hi⟩ := HG.out k x hx
        obtain ⟨g1, g3⟩ := HS.out k x hx
        have HX := Lib.hid (ItemIs.below HB.out (Nat.le_refl _) _ _ hi)
        have q0 : wr.cell? (a.add (k * 3)) = some (.bool l') := by rw [HB.out.cell (block_lt_of_cell c0)]; exact c0
        have q1 : wr.cell? ⟨(a.add (k * 3)).block, (a.add (k * 3)).off + 1, none⟩ = some (.string b') := by
          have e : (⟨(a.add (k * 3)).block, (a.add (k * 3)).off + 1, none⟩ : Addr) = a.add (k * 3 + 1) := by rw [← Go.Deep.add_add]; rfl
          rw [e, HB.out.cell (block_lt_of_cell c1)]
          exact c1
        have q2 : wr.cell? ⟨(a.add (k * 3)).block, (a.add (k * 3)).off + 2, none⟩ = some (.slice p' n' c') := by
          have e : (⟨(a.add (k * 3)).block, (a.add (k * 3)).off + 2, none⟩ : Addr) = a.add (k * 3 + 2) := by rw [← Go.Deep.add_add]; rfl
          rw [e, HB.out.cell (block_lt_of_cell c2)]
          exact c2
        clear hi c0 c1 c2
        have L : Hid (RowAt (wr.alloc (itemO l' b' (.slice p' n' c'))) wr.heap.size #[.bool l', .string b', (.slice p' n' c')] 65) := Lib.hid (RowAt.new _ _ _)
        replace R := Lib.hid (R.out.alloc (itemO l' b' (.slice p' n' c')))
        replace HB := Lib.hid (HB.out.alloc HB.out.size (itemO l' b' (.slice p' n' c')))
        replace HX := Lib.hid (ItemIs.below ((Below.refl wr.heap.size wr).alloc (Nat.le_refl _) (itemO l' b' (.slice p' n' c'))) (Nat.le_refl _) _ _ HX.out)
        have HD1 := Lib.hid (HD.out k x hx)
        have hd1 := HL.out k
        have hd2 := HL.out (k + 1)
        obtain ⟨a0, a1, a2, af0, af1, af2⟩ := L.out.c3
        go_wp2_with fail
        refine (KI.out x g1 g3 _ _ HX.out).mono ?_
        rintro e w2 ⟨rfl, hb⟩
        (replace R := Lib.hid (R.out.belowS hb); replace HB := Lib.hid (HB.out.trans (hb.mono HB.out.size)); clear hb)
        rw [HD1.out] at hd2
        generalize depths (ks.take k) = d at *
        generalize x.depth = dx at *
        by_cases hdx : d < dx
        · go_wp2_with fail
          go_roundw
          case rel => exact ⟨k + 1, by omega, by go_num, by rw [HD1.out]; go_num, HB.out, R.out⟩
          case measure => simp [intOf]; omega
        · go_wp2_with fail
          go_roundw
          case rel => exact ⟨k + 1, by omega, by go_num, by rw [HD1.out]; go_num, HB.out, R.out⟩
          case measure => simp [intOf]; omega
      · obtain rfl : k = m := by omega
        have hd := HL.out k
        have E1 := Lib.hid E.out
        generalize depths (ks.take k) = d at *
        cases l with
        | false =>
          obtain ⟨r0, r1, r2, rf0, rf1, rf2⟩ := R.out.c3
          go_wp2
          go_ret
          rw [E1.out]
          exact ⟨by simp, HB.out⟩
        | true =>
          obtain ⟨r0, r1, r2, rf0, rf1, rf2⟩ := R.out.c3
          go_wp2
          go_ret
          rw [E1.out, if_pos trivial]
          exact ⟨by go_num, HB.out⟩
end Go.Proofs.Ythipnbiilobjeaa

namespace Go.Proofs.Ythipnbiilobjeaa
open Go.RowKit
set_option maxRecDepth 100000

mutual
def It.pureB : It → Bool
  | .mk l b ks => (if l = true then b.isEmpty else ks.isEmpty) && puresB ks
def puresB : List It → Bool
  | [] => true
  | k :: ks => k.pureB && puresB ks
end

mutual
theorem pureB_iff : ∀ x : It, x.pureB = true ↔ x.pure
  | .mk l b ks => by
    rw [It.pureB, It.pure, Bool.and_eq_true, puresB_iff ks]
    cases l <;> simp
theorem puresB_iff : ∀ ks : List It, puresB ks = true ↔ pures ks
  | [] => by simp [puresB, pures]
  | k :: ks => by rw [puresB, pures, Bool.and_eq_true, pureB_iff k, puresB_iff ks]
end

theorem puresB_take {ks : List It} {i : Nat} {k : It} (h : ks[i]? = some k) : puresB (ks.take (i + 1)) = (puresB (ks.take i) && k.pureB) := by
  have e : ∀ xs ys : List It, puresB (xs ++ ys) = (puresB xs && puresB ys) := by
    intro xs ys
    induction xs with
    | nil => simp [puresB]
    | cons x xs ih => rw [List.cons_append, puresB, puresB, ih, Bool.and_assoc]
  rw [List.take_add_one, h, e]
  simp [puresB]

theorem puresB_false {ks : List It} {i : Nat} {k : It} (h : ks[i]? = some k) (hk : k.pureB = false) : puresB ks = false := by
  cases hp : puresB ks with
  | false => rfl
  | true =>
    have := pures_get ((puresB_iff ks).1 hp) h
    rw [← pureB_iff, hk] at this
    cases this

set_option maxRecDepth 100000 in
set_option maxHeartbeats 1000000 in
theorem rpure_any : ∀ (n : Nat) (x : It), x.size ≤ n → ∀ (v : Value) (w : World), ItemIs w x v →
    Calls Try.prog 142 #[v] w fun e w' => e = .returned (.bool x.pureB) ∧ Below w.heap.size w w'
  | 0, x, h, _, _, _ => by have := x.size_pos; omega
  | n + 1, .mk l b ks, hsz, v, w, hv => by
    obtain ⟨kv, rfl, hbz, hk⟩ := itemIs_iff.1 hv
    have KI := Lib.hid (rpure_any n)
    clear hv
    obtain ⟨p, cap, rfl, h1, h2, hg⟩ := hk.parts
    rw [It.size] at hsz
    have HG := Lib.hid hg
    have HS := Lib.hid (fun i k (h : ks[i]? = some k) => (by have := sizes_get h; omega : It.size k ≤ n))
    have HD := Lib.hid (fun i k (h : ks[i]? = some k) => puresB_take h)
    have HF := Lib.hid (fun i k (h : ks[i]? = some k) (h' : k.pureB = false) => puresB_false h h')
    have L : Hid (RowAt (w.alloc (itemO l (mkS b) (.slice p ks.length cap))) w.heap.size #[.bool l, .string (mkS b), .slice p ks.length cap] 65) := Lib.hid (RowAt.new _ _ _)
    have B : Hid (Below w.heap.size w (w.alloc (itemO l (mkS b) (.slice p ks.length cap)))) := Lib.hid ((Below.refl _ _).alloc (Nat.le_refl _) _)
    have D0 : Hid (puresB (ks.take 0) = true) := Lib.hid (by simp [puresB])
    have DM : Hid (puresB (ks.take ks.length) = puresB ks) := Lib.hid (by rw [List.take_length])
    have hcase : (l = false ∧ 0 < ks.length ∧ (It.mk l b ks).pureB = false) ∨ (l = true ∧ b ≠ [] ∧ (It.mk l b ks).pureB = false) ∨ (l = false ∧ ks.length = 0 ∧ (It.mk l b ks).pureB = puresB ks) ∨ (l = true ∧ b = [] ∧ (It.mk l b ks).pureB = puresB ks) := by
      cases l
      · cases ks
        · right; right; left; simp [It.pureB]
        · left; simp [It.pureB]
      · cases b
        · right; right; right; simp [It.pureB]
        · right; left; simp [It.pureB]
    clear hk hsz hg hbz
    generalize hm : ks.length = m at *
    have HM := Lib.hid hm
    clear hm
    rcases hcase with ⟨rfl, hc, hr⟩ | ⟨rfl, hc, hr⟩ | ⟨rfl, hc, hr⟩ | ⟨rfl, hc, hr⟩
    · have HR := Lib.hid hr
      clear hr
      obtain ⟨a0, a1, a2, af0, af1, af2⟩ := L.out.c3
      go_enter Try.func142, Try.ntmps142
      go_wp2
      go_ret
      rw [HR.out]
      exact ⟨rfl, B.out⟩
    · have HR := Lib.hid hr
      have hs : ¬ (mkS b).toList = [] := by rw [toList_bl, bl_mk]; exact hc
      have hs2 : (mkS b).toList.isEmpty = false := by rw [toList_bl, bl_mk]; simpa using hc
      clear hr hc
      obtain ⟨a0, a1, a2, af0, af1, af2⟩ := L.out.c3
      go_enter Try.func142, Try.ntmps142
      go_wp2
      go_ret
      rw [HR.out]
      exact ⟨rfl, B.out⟩
    · subst hc
      have R := Lib.hid (hr.trans (DM.out.symm.trans D0.out))
      clear hr
      obtain ⟨a0, a1, a2, af0, af1, af2⟩ := L.out.c3
      go_enter Try.func142, Try.ntmps142
      go_wp2
      go_loopw [26] (fun i wr => i = .int .i64 0 ∧ Below w.heap.size w wr) (fun _ _ => 0)
      case atStart => exact ⟨rfl, B.out⟩
      case round =>
        obtain ⟨rfl, hbl⟩ := hrel
        have HB := Lib.hid hbl
        clear hbl
        go_wp2
        go_ret
        rw [R.out]
        exact ⟨rfl, HB.out⟩
    · have HR := Lib.hid hr
      subst hc
      have hs : (mkS []).toList = [] := by rw [toList_bl, bl_mk]
      clear hr
      obtain ⟨a0, a1, a2, af0, af1, af2⟩ := L.out.c3
      go_enter Try.func142, Try.ntmps142
      go_wp2
      go_loopw [26] (fun i wr => ∃ k : Nat, k ≤ m ∧ i = .int .i64 k ∧ puresB (ks.take k) = true ∧ Below w.heap.size w wr) (fun i _ => m - (intOf i).toNat)
      case atStart => exact ⟨0, Nat.zero_le _, rfl, D0.out, B.out⟩
      case round =>
        obtain ⟨k, hk, rfl, hp, hbl⟩ := hrel
        have HB := Lib.hid hbl
        have HP := Lib.hid hp
        clear hbl hp L B D0
        by_cases hlt : k < m
        · obtain ⟨x, hx⟩ : ∃ x, ks[k]? = some x := ⟨_, List.getElem?_eq_getElem (by rw [HM.out]; exact hlt)⟩
          obtain ⟨a, l', b', p', n', c', rfl, c0, c1, c2, hi⟩ := HG.out k x hx
          have g1 := HS.out k x hx
          have HX := Lib.hid (ItemIs.below HB.out (Nat.le_refl _) _ _ hi)
          have q0 : wr.cell? (a.add (k * 3)) = some (.bool l') := by rw [HB.out.cell (block_lt_of_cell c0)]; exact c0
          have q1 : wr.cell? ⟨(a.add (k * 3)).block, (a.add (k * 3)).off + 1, none⟩ = some (.string b') := by
            have e : (⟨(a.add (k * 3)).block, (a.add (k * 3)).off + 1, none⟩ : Addr) = a.add (k * 3 + 1) := by rw [← Go.Deep.add_add]; rfl
            rw [e, HB.out.cell (block_lt_of_cell c1)]
            exact c1
          have q2 : wr.cell? ⟨(a.add (k * 3)).block, (a.add (k * 3)).off + 2, none⟩ = some (.slice p' n' c') := by
            have e : (⟨(a.add (k * 3)).block, (a.add (k * 3)).off + 2, none⟩ : Addr) = a.add (k * 3 + 2) := by rw [← Go.Deep.add_add]; rfl
            rw [e, HB.out.cell (block_lt_of_cell c2)]
            exact c2
          clear hi c0 c1 c2
          have L : Hid (RowAt (wr.alloc (itemO l' b' (.slice p' n' c'))) wr.heap.size #[.bool l', .string b', .slice p' n' c'] 65) := Lib.hid (RowAt.new _ _ _)
          replace HB := Lib.hid (HB.out.alloc HB.out.size (itemO l' b' (.slice p' n' c')))
          replace HX := Lib.hid (ItemIs.below ((Below.refl wr.heap.size wr).alloc (Nat.le_refl _) (itemO l' b' (.slice p' n' c'))) (Nat.le_refl _) _ _ HX.out)
          have HD1 := Lib.hid (HD.out k x hx)
          have HF1 := Lib.hid (HF.out k x hx)
          obtain ⟨a0, a1, a2, af0, af1, af2⟩ := L.out.c3
          go_wp2_with fail
          refine (KI.out x g1 _ _ HX.out).mono ?_
          rintro e w2 ⟨rfl, hb⟩
          (replace HB := Lib.hid (HB.out.trans (hb.mono HB.out.size)); clear hb)
          generalize hxp : x.pureB = xp at *
          cases xp with
          | false =>
            go_wp2_with fail
            go_ret
            rw [HR.out, HF1.out trivial]
            exact ⟨rfl, HB.out⟩
          | true =>
            go_wp2_with fail
            go_roundw
            case rel => exact ⟨k + 1, by omega, by go_num, by rw [HD1.out, HP.out]; rfl, HB.out⟩
            case measure => simp [intOf]; omega
        · obtain rfl : k = m := by omega
          have R := Lib.hid (HR.out.trans (DM.out.symm.trans HP.out))
          go_wp2
          go_ret
          rw [R.out]
          exact ⟨rfl, HB.out⟩
end Go.Proofs.Ythipnbiilobjeaa

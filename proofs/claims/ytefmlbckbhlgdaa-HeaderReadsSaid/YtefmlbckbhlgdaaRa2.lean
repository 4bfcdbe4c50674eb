/- Rlp: contracts of the program: deep. Rlp: a queue of items: the call's own row of cells, three an item. Rlp: contracts of the reference: Depth. Rlp: contracts of the reference: pure. Regions that draw their order and hold calls that make memory: one walk, in the order of the text, at the class of the worlds in which nothing old has turned. Rlp: contracts of the reference: Digits, head; Number, List. Rlp: contracts of the reference: Write. strings.Builder at this program: contracts of copyCheck, Len, WriteString, String (Len's and String's laid out of the library's shelf by its own tool; the two others walked here). -/
import Derived.Deep.SlicePairs
import Derived.Laws.AppendOwnNone
import Derived.Deep.QuietTactic
import Derived.BigQuiet
import Derived.Deep.DeepCutAuto
import Derived.Shelf.Strings.Builder1
import Derived.Test.YtefmlbckbhlgdaaRa0
import Derived.Test.YtefmlbckbhlgdaaRa1
namespace Go.Proofs.Ytefmlbckbhlgdaa
open Go.RowKit
set_option maxRecDepth 100000
theorem It.size_pos : ∀ x : It, 1 ≤ x.size
  | .mk l b ks => by rw [It.size]; omega

mutual
theorem It.depth_le : ∀ x : It, x.depth ≤ x.size
  | .mk l b ks => by
    rw [It.depth, It.size]
    have := depths_le ks
    split <;> omega
theorem depths_le : ∀ ks : List It, depths ks ≤ sizes ks
  | [] => by rw [depths, sizes]; exact Nat.le_refl _
  | k :: ks => by
    rw [depths, sizes]
    have := It.depth_le k
    have := depths_le ks
    omega
end
theorem depths_append : ∀ (xs ys : List It), depths (xs ++ ys) = max (depths xs) (depths ys)
  | [], ys => by rw [List.nil_append, depths]; omega
  | x :: xs, ys => by rw [List.cons_append, depths, depths, depths_append xs ys]; omega

theorem sizes_append : ∀ (xs ys : List It), sizes (xs ++ ys) = sizes xs + sizes ys
  | [], ys => by rw [List.nil_append, sizes]; omega
  | x :: xs, ys => by rw [List.cons_append, sizes, sizes, sizes_append xs ys]; omega

theorem sizes_get {ks : List It} {i : Nat} {k : It} (h : ks[i]? = some k) : k.size ≤ sizes ks := by
  obtain ⟨hi, rfl⟩ := List.getElem?_eq_some_iff.1 h
  have e : ks = ks.take i ++ (ks[i] :: ks.drop (i + 1)) := by rw [List.getElem_cons_drop, List.take_append_drop]
  have := congrArg sizes e
  rw [sizes_append, sizes] at this
  omega

theorem pures_get : ∀ {ks : List It} {i : Nat} {k : It}, pures ks → ks[i]? = some k → k.pure
  | [], i, k, _, h => by simp at h
  | x :: ks, 0, k, hp, h => by simp at h; subst h; exact hp.1
  | x :: ks, i + 1, k, hp, h => pures_get hp.2 (by simpa using h)

theorem depths_take {ks : List It} {i : Nat} {k : It} (h : ks[i]? = some k) : depths (ks.take (i + 1)) = max (depths (ks.take i)) k.depth := by
  rw [List.take_add_one, h, depths_append]
  simp [depths]

abbrev itemO (l : Bool) (b : ByteArray) (kv : Value) : Obj := .cells #[.bool l, .string b, kv] 98

set_option maxHeartbeats 1000000 in
theorem deep_any : ∀ (n : Nat) (x : It), x.size ≤ n → x.pure → x.size ≤ 1000000 → ∀ (v : Value) (w : World), ItemIs w x v →
    Calls Try.prog 84 #[v] w fun e w' => e = .returned (.int .i64 x.depth) ∧ Below w.heap.size w w'
  | 0, x, h, _, _, _, _, _ => by have := x.size_pos; omega
  | n + 1, .mk l b ks, hsz, hp, hs, v, w, hv => by
    obtain ⟨kv, rfl, hbz, hk⟩ := itemIs_iff.1 hv
    have KI := Lib.hid (deep_any n)
    clear hv
    cases l with
    | false =>
      obtain rfl := hp.2.1 rfl
      have L : Hid (RowAt (w.alloc (itemO false (mkS b) kv)) w.heap.size #[.bool false, .string (mkS b), kv] 98) := Lib.hid (RowAt.new _ _ _)
      have B : Hid (Below w.heap.size w (w.alloc (itemO false (mkS b) kv))) := Lib.hid ((Below.refl _ _).alloc (Nat.le_refl _) _)
      have E : Hid ((It.mk false b []).depth = 0) := Lib.hid (by simp [It.depth, depths])
      obtain ⟨p, cap, rfl, _⟩ := hk.parts
      clear hk hp hsz hs
      obtain ⟨a0, a1, a2, af0, af1, af2⟩ := L.out.c3
      go_enter Try.func84, Try.ntmps84
      go_wp2
      go_ret
      rw [E.out]
      exact ⟨rfl, B.out⟩
    | true =>
      obtain ⟨p, cap, rfl, h1, h2, hg⟩ := hk.parts
      rw [It.size] at hsz hs
      have hdl := depths_le ks
      have HG := Lib.hid hg
      have HS := Lib.hid (fun i k (h : ks[i]? = some k) => (⟨by have := sizes_get h; omega, pures_get hp.2.2 h, by have := sizes_get h; omega⟩ : k.size ≤ n ∧ k.pure ∧ k.size ≤ 1000000))
      have HD := Lib.hid (fun i k (h : ks[i]? = some k) => depths_take h)
      have E : Hid ((It.mk true b ks).depth = depths (ks.take ks.length) + 1) := Lib.hid (by simp [It.depth])
      have HL := Lib.hid (fun i => (by have := depths_le (ks.take i); have h := congrArg sizes (List.take_append_drop i ks); rw [sizes_append] at h; omega : depths (ks.take i) ≤ 1000000))
      have L : Hid (RowAt (w.alloc (itemO true (mkS b) (.slice p ks.length cap))) w.heap.size #[.bool true, .string (mkS b), .slice p ks.length cap] 98) := Lib.hid (RowAt.new _ _ _)
      have B : Hid (Below w.heap.size w (w.alloc (itemO true (mkS b) (.slice p ks.length cap)))) := Lib.hid ((Below.refl _ _).alloc (Nat.le_refl _) _)
      have D0 : Hid (depths (ks.take 0) = 0) := Lib.hid (by simp [depths])
      clear hk hp hsz hs hg hdl hbz
      generalize hm : ks.length = m at *
      have HM := Lib.hid hm
      clear hm
      obtain ⟨a0, a1, a2, af0, af1, af2⟩ := L.out.c3
      go_enter Try.func84, Try.ntmps84
      go_wp2
      go_loopw [3, 12] (fun d i wr => ∃ k : Nat, k ≤ m ∧ i = .int .i64 k ∧ d = .int .i64 (depths (ks.take k)) ∧ Below w.heap.size w wr) (fun _ i _ => m - (intOf i).toNat)
      case atStart => exact ⟨0, Nat.zero_le _, rfl, by rw [D0.out]; rfl, B.out⟩
      case round =>
        obtain ⟨k, hk, rfl, rfl, hbl⟩ := hrel
        have HB := Lib.hid hbl
        clear hbl L B
        by_cases hlt : k < m
        · obtain ⟨x, hx⟩ : ∃ x, ks[k]? = some x := ⟨_, List.getElem?_eq_getElem (by rw [HM.out]; exact hlt)⟩
          obtain ⟨a, l', b', p', n', c', rfl, c0, c1, c2, hi⟩ := HG.out k x hx
          obtain ⟨g1, g2, g3⟩ := HS.out k x hx
          have HX := Lib.hid (ItemIs.below HB.out (Nat.le_refl _) _ _ hi)
          have q0 : wr.cell? (a.add (k * 3)) = some (.bool l') := by rw [HB.out.cell (block_lt_of_cell c0)]; exact c0
          have q1 : wr.cell? ⟨(a.add (k * 3)).block, (a.add (k * 3)).off + 1, none⟩ = some (.string b') := by
            have e : (⟨(a.add (k * 3)).block, (a.add (k * 3)).off + 1, none⟩ : Addr) = a.add (k * 3 + 1) := by rw [← Go.Deep.add_add]; rfl
            rw [e, HB.out.cell (block_lt_of_cell c1)]
            exact c1
          have q2 : wr.cell? ⟨(a.add (k * 3)).block, (a.add (k * 3)).off + 2, none⟩ = some (.slice p' n' c') := by
            have e : (⟨(a.add (k * 3)).block, (a.add (k * 3)).off + 2, none⟩ : Addr) = a.add (k * 3 + 2) := by rw [← Go.Deep.add_add]; rfl
            rw [e, HB.out.cell (block_lt_of_cell c2)]
            exact c2
          clear hi c0 c1 c2
          have L : Hid (RowAt (wr.alloc (itemO l' b' (.slice p' n' c'))) wr.heap.size #[.bool l', .string b', (.slice p' n' c')] 98) := Lib.hid (RowAt.new _ _ _)
          replace HB := Lib.hid (HB.out.alloc HB.out.size (itemO l' b' (.slice p' n' c')))
          replace HX := Lib.hid (ItemIs.below ((Below.refl wr.heap.size wr).alloc (Nat.le_refl _) (itemO l' b' (.slice p' n' c'))) (Nat.le_refl _) _ _ HX.out)
          have HD1 := Lib.hid (HD.out k x hx)
          have hd1 := HL.out k
          have hd2 := HL.out (k + 1)
          obtain ⟨a0, a1, a2, af0, af1, af2⟩ := L.out.c3
          go_wp2_with fail
          refine (KI.out x g1 g2 g3 _ _ HX.out).mono ?_
          rintro e w2 ⟨rfl, hb⟩
          (replace HB := Lib.hid (HB.out.trans (hb.mono HB.out.size)); clear hb)
          rw [HD1.out] at hd2
          generalize depths (ks.take k) = d at *
          generalize x.depth = dx at *
          go_wp2_with fail
          go_roundw
          case rel => exact ⟨k + 1, by omega, by go_num, by rw [HD1.out]; go_num, HB.out⟩
          case measure => simp [intOf]; omega
        · obtain rfl : k = m := by omega
          have hd := HL.out k
          have E1 := Lib.hid E.out
          generalize depths (ks.take k) = d at *
          go_wp2
          go_ret
          rw [E1.out]
          exact ⟨by go_num, HB.out⟩
end Go.Proofs.Ytefmlbckbhlgdaa
namespace Go.Proofs.Ytefmlbckbhlgdaa
open Go.RowKit
set_option maxRecDepth 100000
/-- An item's three cells. -/
abbrev IV := Bool × ByteArray × (Option Addr × Nat × Nat)
def IV.kids (x : IV) : Value := .slice x.2.2.1 x.2.2.2.1 x.2.2.2.2
def cells3 (x : IV) : List Value := [.bool x.1, .string x.2.1, x.kids]
def IV.val (x : IV) : Value := .agg #[.bool x.1, .string x.2.1, x.kids]
def flat3 : List IV → List Value
  | [] => []
  | x :: l => cells3 x ++ flat3 l

theorem flat3_length : ∀ l : List IV, (flat3 l).length = l.length * 3
  | [] => rfl
  | x :: l => by rw [flat3, List.length_append, flat3_length l, List.length_cons]; simp [cells3]; omega

theorem flat3_append : ∀ l m : List IV, flat3 (l ++ m) = flat3 l ++ flat3 m
  | [], m => rfl
  | x :: l, m => by rw [List.cons_append, flat3, flat3, flat3_append l m, List.append_assoc]

theorem flat3_get : ∀ (l : List IV) (i : Nat) (x : IV), l[i]? = some x → (flat3 l)[i * 3]? = some (.bool x.1) ∧ (flat3 l)[i * 3 + 1]? = some (.string x.2.1) ∧ (flat3 l)[i * 3 + 2]? = some x.kids
  | [], i, x, h => by simp at h
  | y :: l, 0, x, h => by simp at h; subst h; exact ⟨rfl, rfl, rfl⟩
  | y :: l, i + 1, x, h => by
    obtain ⟨h1, h2, h3⟩ := flat3_get l i x (by simpa using h)
    have e : ∀ j, (flat3 (y :: l))[(i + 1) * 3 + j]? = (flat3 l)[i * 3 + j]? := fun j => by
      rw [flat3, List.getElem?_append_right (by simp [cells3]; omega)]
      congr 1
      simp [cells3]
      omega
    exact ⟨(e 0).trans h1, (e 1).trans h2, (e 2).trans h3⟩

theorem flat3_one : ∀ l : List IV, ∀ u ∈ flat3 l, u.oneCell' = true
  | [], u, h => by cases h
  | x :: l, u, h => by
    rw [flat3] at h
    rcases List.mem_append.1 h with h | h
    · simp only [cells3, List.mem_cons, List.not_mem_nil, or_false] at h
      rcases h with rfl | rfl | rfl <;> rfl
    · exact flat3_one l u h

/-- The items lie in the triples. -/
def QIs (w : World) : List It → List IV → Prop
  | [], [] => True
  | k :: q, x :: l => ItemIs w k x.val ∧ QIs w q l
  | _, _ => False

theorem QIs.length {w : World} : ∀ {q : List It} {l : List IV}, QIs w q l → q.length = l.length
  | [], [], _ => rfl
  | k :: q, x :: l, h => by rw [List.length_cons, List.length_cons, QIs.length h.2]
  | [], _ :: _, h => by cases h
  | _ :: _, [], h => by cases h

theorem QIs.append {w : World} {q' : List It} {l' : List IV} (h' : QIs w q' l') : ∀ {q : List It} {l : List IV}, QIs w q l → QIs w (q ++ q') (l ++ l')
  | [], [], _ => h'
  | k :: q, x :: l, h => ⟨h.1, QIs.append h' h.2⟩
  | [], _ :: _, h => by cases h
  | _ :: _, [], h => by cases h

theorem QIs.below {w w' : World} {B : Nat} (hb : Below B w w') (hB : w.heap.size ≤ B) : ∀ {q : List It} {l : List IV}, QIs w q l → QIs w' q l
  | [], [], _ => trivial
  | k :: q, x :: l, h => ⟨ItemIs.below hb hB k _ h.1, QIs.below hb hB h.2⟩
  | [], _ :: _, h => by cases h
  | _ :: _, [], h => by cases h

theorem QIs.get {w : World} : ∀ {q : List It} {l : List IV} {i : Nat} {k : It}, QIs w q l → q[i]? = some k → ∃ x, l[i]? = some x ∧ ItemIs w k x.val
  | k' :: q, x :: l, 0, k, h, hk => by simp at hk; subst hk; exact ⟨x, rfl, h.1⟩
  | k' :: q, x :: l, i + 1, k, h, hk => by
    obtain ⟨y, h1, h2⟩ := QIs.get (i := i) h.2 (by simpa using hk)
    exact ⟨y, by simpa using h1, h2⟩
  | [], _, i, k, _, hk => by simp at hk
  | _ :: _, [], _, _, h, _ => by cases h

/-- An item's triple. -/
theorem itemIs_val {w : World} {k : It} {v : Value} (h : ItemIs w k v) : ∃ x : IV, v = x.val := by
  obtain ⟨l, b, ks⟩ := k
  obtain ⟨kv, rfl, _, hk⟩ := itemIs_iff.1 h
  obtain ⟨p, cap, rfl, _⟩ := hk.parts
  exact ⟨(l, mkS b, p, ks.length, cap), rfl⟩

theorem KidsAt.list {w : World} {a : Addr} : ∀ (ks : List It) (i : Nat), KidsAt w ks a i → ∃ l : List IV, QIs w ks l ∧ ∀ j u, (flat3 l)[j]? = some u → w.cell? (a.add (i * 3 + j)) = some u
  | [], i, _ => ⟨[], trivial, fun j u h => by simp [flat3] at h⟩
  | k :: ks, i, h => by
    rw [KidsAt] at h
    obtain ⟨⟨v0, v1, v2, c0, c1, c2, hi⟩, ht⟩ := h
    obtain ⟨l, hl, hc⟩ := KidsAt.list ks (i + 1) ht
    obtain ⟨x, hx⟩ := itemIs_val hi
    have e := hx
    unfold IV.val at e
    injection e with e
    simp at e
    obtain ⟨rfl, rfl, rfl⟩ := e
    refine ⟨x :: l, ⟨by rw [← hx]; exact hi, hl⟩, fun j u hj => ?_⟩
    rw [flat3] at hj
    match j, hj with
    | 0, hj => simp [cells3] at hj; subst hj; exact c0
    | 1, hj => simp [cells3] at hj; subst hj; exact c1
    | 2, hj => simp [cells3] at hj; subst hj; exact c2
    | j + 3, hj =>
      have := hc j u (by simpa [cells3] using hj)
      rwa [show (i + 1) * 3 + j = i * 3 + (j + 3) by omega] at this
end Go.Proofs.Ytefmlbckbhlgdaa
namespace Go.Proofs.Ytefmlbckbhlgdaa
open Go.RowKit
set_option maxRecDepth 100000
set_option maxHeartbeats 1000000 in
theorem rdepth_any : ∀ (n : Nat) (x : It), x.size ≤ n → x.size ≤ 1000000 → ∀ (v : Value) (w : World), ItemIs w x v →
    Calls Try.prog 106 #[v] w fun e w' => e = .returned (.int .i64 x.depth) ∧ Below w.heap.size w w'
  | 0, x, h, _, _, _, _ => by have := x.size_pos; omega
  | n + 1, .mk l b ks, hsz, hs, v, w, hv => by
    obtain ⟨kv, rfl, hbz, hk⟩ := itemIs_iff.1 hv
    have KI := Lib.hid (rdepth_any n)
    clear hv
    obtain ⟨p, cap, rfl, h1, h2, hg⟩ := hk.parts
    rw [It.size] at hsz hs
    have hdl := depths_le ks
    have HG := Lib.hid hg
    have HS := Lib.hid (fun i k (h : ks[i]? = some k) => (⟨by have := sizes_get h; omega, by have := sizes_get h; omega⟩ : It.size k ≤ n ∧ It.size k ≤ 1000000))
    have HD := Lib.hid (fun i k (h : ks[i]? = some k) => depths_take h)
    have E : Hid ((It.mk l b ks).depth = depths (ks.take ks.length) + (if l = true then 1 else 0)) := Lib.hid (by simp [It.depth])
    have HL := Lib.hid (fun i => (by have := depths_le (ks.take i); have h := congrArg sizes (List.take_append_drop i ks); rw [sizes_append] at h; omega : depths (ks.take i) ≤ 1000000))
    have L : Hid (RowAt (w.alloc (itemO l (mkS b) (.slice p ks.length cap))) w.heap.size #[.bool l, .string (mkS b), .slice p ks.length cap] 98) := Lib.hid (RowAt.new _ _ _)
    have B : Hid (Below w.heap.size w (w.alloc (itemO l (mkS b) (.slice p ks.length cap)))) := Lib.hid ((Below.refl _ _).alloc (Nat.le_refl _) _)
    have D0 : Hid (depths (ks.take 0) = 0) := Lib.hid (by simp [depths])
    clear hk hsz hs hg hdl hbz
    generalize hm : ks.length = m at *
    have HM := Lib.hid hm
    clear hm
    obtain ⟨a0, a1, a2, af0, af1, af2⟩ := L.out.c3
    go_enter Try.func106, Try.ntmps106
    go_wp2
    go_loopw [3, 10] (fun d i wr => ∃ k : Nat, k ≤ m ∧ i = .int .i64 k ∧ d = .int .i64 (depths (ks.take k)) ∧ Below w.heap.size w wr ∧ RowAt wr w.heap.size #[.bool l, .string (mkS b), .slice p m cap] 98) (fun _ i _ => m - (intOf i).toNat)
    case atStart => exact ⟨0, Nat.zero_le _, rfl, by rw [D0.out]; rfl, B.out, L.out⟩
    case round =>
      obtain ⟨k, hk, rfl, rfl, hbl, hrow⟩ := hrel
      have HB := Lib.hid hbl
      have R := Lib.hid hrow
      clear hbl hrow L B
      by_cases hlt : k < m
      · obtain ⟨x, hx⟩ : ∃ x, ks[k]? = some x := ⟨_, List.getElem?_eq_getElem (by rw [HM.out]; exact hlt)⟩
        obtain ⟨a, l', b', p', n', c', rfl, c0, c1, c2, hi⟩ := HG.out k x hx
        obtain ⟨g1, g3⟩ := HS.out k x hx
        have HX := Lib.hid (ItemIs.below HB.out (Nat.le_refl _) _ _ hi)
        have q0 : wr.cell? (a.add (k * 3)) = some (.bool l') := by rw [HB.out.cell (block_lt_of_cell c0)]; exact c0
        have q1 : wr.cell? ⟨(a.add (k * 3)).block, (a.add (k * 3)).off + 1, none⟩ = some (.string b') := by
          have e : (⟨(a.add (k * 3)).block, (a.add (k * 3)).off + 1, none⟩ : Addr) = a.add (k * 3 + 1) := by rw [← Go.Deep.add_add]; rfl
          rw [e, HB.out.cell (block_lt_of_cell c1)]
          exact c1
        have q2 : wr.cell? ⟨(a.add (k * 3)).block, (a.add (k * 3)).off + 2, none⟩ = some (.slice p' n' c') := by
          have e : (⟨(a.add (k * 3)).block, (a.add (k * 3)).off + 2, none⟩ : Addr) = a.add (k * 3 + 2) := by rw [← Go.Deep.add_add]; rfl
          rw [e, HB.out.cell (block_lt_of_cell c2)]
          exact c2
        clear hi c0 c1 c2
        have L : Hid (RowAt (wr.alloc (itemO l' b' (.slice p' n' c'))) wr.heap.size #[.bool l', .string b', (.slice p' n' c')] 98) := Lib.hid (RowAt.new _ _ _)
        replace R := Lib.hid (R.out.alloc (itemO l' b' (.slice p' n' c')))
        replace HB := Lib.hid (HB.out.alloc HB.out.size (itemO l' b' (.slice p' n' c')))
        replace HX := Lib.hid (ItemIs.below ((Below.refl wr.heap.size wr).alloc (Nat.le_refl _) (itemO l' b' (.slice p' n' c'))) (Nat.le_refl _) _ _ HX.out)
        have HD1 := Lib.hid (HD.out k x hx)
        have hd1 := HL.out k
        have hd2 := HL.out (k + 1)
        obtain ⟨a0, a1, a2, af0, af1, af2⟩ := L.out.c3
        go_wp2_with fail
        refine (KI.out x g1 g3 _ _ HX.out).mono ?_
        rintro e w2 ⟨rfl, hb⟩
        (replace R := Lib.hid (R.out.belowS hb); replace HB := Lib.hid (HB.out.trans (hb.mono HB.out.size)); clear hb)
        rw [HD1.out] at hd2
        generalize depths (ks.take k) = d at *
        generalize x.depth = dx at *
        by_cases hdx : d < dx
        · go_wp2_with fail
          go_roundw
          case rel => exact ⟨k + 1, by omega, by go_num, by rw [HD1.out]; go_num, HB.out, R.out⟩
          case measure => simp [intOf]; omega
        · go_wp2_with fail
          go_roundw
          case rel => exact ⟨k + 1, by omega, by go_num, by rw [HD1.out]; go_num, HB.out, R.out⟩
          case measure => simp [intOf]; omega
      · obtain rfl : k = m := by omega
        have hd := HL.out k
        have E1 := Lib.hid E.out
        generalize depths (ks.take k) = d at *
        cases l with
        | false =>
          obtain ⟨r0, r1, r2, rf0, rf1, rf2⟩ := R.out.c3
          go_wp2
          go_ret
          rw [E1.out]
          exact ⟨by simp, HB.out⟩
        | true =>
          obtain ⟨r0, r1, r2, rf0, rf1, rf2⟩ := R.out.c3
          go_wp2
          go_ret
          rw [E1.out, if_pos trivial]
          exact ⟨by go_num, HB.out⟩
end Go.Proofs.Ytefmlbckbhlgdaa
namespace Go.Proofs.Ytefmlbckbhlgdaa
open Go.RowKit
set_option maxRecDepth 100000
mutual
def It.pureB : It → Bool
  | .mk l b ks => (if l = true then b.isEmpty else ks.isEmpty) && puresB ks
def puresB : List It → Bool
  | [] => true
  | k :: ks => k.pureB && puresB ks
end
mutual
theorem pureB_iff : ∀ x : It, x.pureB = true ↔ x.pure
  | .mk l b ks => by
    rw [It.pureB, It.pure, Bool.and_eq_true, puresB_iff ks]
    cases l <;> simp
theorem puresB_iff : ∀ ks : List It, puresB ks = true ↔ pures ks
  | [] => by simp [puresB, pures]
  | k :: ks => by rw [puresB, pures, Bool.and_eq_true, pureB_iff k, puresB_iff ks]
end
theorem puresB_take {ks : List It} {i : Nat} {k : It} (h : ks[i]? = some k) : puresB (ks.take (i + 1)) = (puresB (ks.take i) && k.pureB) := by
  have e : ∀ xs ys : List It, puresB (xs ++ ys) = (puresB xs && puresB ys) := by
    intro xs ys
    induction xs with
    | nil => simp [puresB]
    | cons x xs ih => rw [List.cons_append, puresB, puresB, ih, Bool.and_assoc]
  rw [List.take_add_one, h, e]
  simp [puresB]

theorem puresB_false {ks : List It} {i : Nat} {k : It} (h : ks[i]? = some k) (hk : k.pureB = false) : puresB ks = false := by
  cases hp : puresB ks with
  | false => rfl
  | true =>
    have := pures_get ((puresB_iff ks).1 hp) h
    rw [← pureB_iff, hk] at this
    cases this

set_option maxRecDepth 100000 in
set_option maxHeartbeats 1000000 in
theorem rpure_any : ∀ (n : Nat) (x : It), x.size ≤ n → ∀ (v : Value) (w : World), ItemIs w x v →
    Calls Try.prog 155 #[v] w fun e w' => e = .returned (.bool x.pureB) ∧ Below w.heap.size w w'
  | 0, x, h, _, _, _ => by have := x.size_pos; omega
  | n + 1, .mk l b ks, hsz, v, w, hv => by
    obtain ⟨kv, rfl, hbz, hk⟩ := itemIs_iff.1 hv
    have KI := Lib.hid (rpure_any n)
    clear hv
    obtain ⟨p, cap, rfl, h1, h2, hg⟩ := hk.parts
    rw [It.size] at hsz
    have HG := Lib.hid hg
    have HS := Lib.hid (fun i k (h : ks[i]? = some k) => (by have := sizes_get h; omega : It.size k ≤ n))
    have HD := Lib.hid (fun i k (h : ks[i]? = some k) => puresB_take h)
    have HF := Lib.hid (fun i k (h : ks[i]? = some k) (h' : k.pureB = false) => puresB_false h h')
    have L : Hid (RowAt (w.alloc (itemO l (mkS b) (.slice p ks.length cap))) w.heap.size #[.bool l, .string (mkS b), .slice p ks.length cap] 98) := Lib.hid (RowAt.new _ _ _)
    have B : Hid (Below w.heap.size w (w.alloc (itemO l (mkS b) (.slice p ks.length cap)))) := Lib.hid ((Below.refl _ _).alloc (Nat.le_refl _) _)
    have D0 : Hid (puresB (ks.take 0) = true) := Lib.hid (by simp [puresB])
    have DM : Hid (puresB (ks.take ks.length) = puresB ks) := Lib.hid (by rw [List.take_length])
    have hcase : (l = false ∧ 0 < ks.length ∧ (It.mk l b ks).pureB = false) ∨ (l = true ∧ b ≠ [] ∧ (It.mk l b ks).pureB = false) ∨ (l = false ∧ ks.length = 0 ∧ (It.mk l b ks).pureB = puresB ks) ∨ (l = true ∧ b = [] ∧ (It.mk l b ks).pureB = puresB ks) := by
      cases l
      · cases ks
        · right; right; left; simp [It.pureB]
        · left; simp [It.pureB]
      · cases b
        · right; right; right; simp [It.pureB]
        · right; left; simp [It.pureB]
    clear hk hsz hg hbz
    generalize hm : ks.length = m at *
    have HM := Lib.hid hm
    clear hm
    rcases hcase with ⟨rfl, hc, hr⟩ | ⟨rfl, hc, hr⟩ | ⟨rfl, hc, hr⟩ | ⟨rfl, hc, hr⟩
    · have HR := Lib.hid hr
      clear hr
      obtain ⟨a0, a1, a2, af0, af1, af2⟩ := L.out.c3
      go_enter Try.func155, Try.ntmps155
      go_wp2
      go_ret
      rw [HR.out]
      exact ⟨rfl, B.out⟩
    · have HR := Lib.hid hr
      have hs : ¬ (mkS b).toList = [] := by rw [toList_bl, bl_mk]; exact hc
      have hs2 : (mkS b).toList.isEmpty = false := by rw [toList_bl, bl_mk]; simpa using hc
      clear hr hc
      obtain ⟨a0, a1, a2, af0, af1, af2⟩ := L.out.c3
      go_enter Try.func155, Try.ntmps155
      go_wp2
      go_ret
      rw [HR.out]
      exact ⟨rfl, B.out⟩
    · subst hc
      have R := Lib.hid (hr.trans (DM.out.symm.trans D0.out))
      clear hr
      obtain ⟨a0, a1, a2, af0, af1, af2⟩ := L.out.c3
      go_enter Try.func155, Try.ntmps155
      go_wp2
      go_loopw [26] (fun i wr => i = .int .i64 0 ∧ Below w.heap.size w wr) (fun _ _ => 0)
      case atStart => exact ⟨rfl, B.out⟩
      case round =>
        obtain ⟨rfl, hbl⟩ := hrel
        have HB := Lib.hid hbl
        clear hbl
        go_wp2
        go_ret
        rw [R.out]
        exact ⟨rfl, HB.out⟩
    · have HR := Lib.hid hr
      subst hc
      have hs : (mkS []).toList = [] := by rw [toList_bl, bl_mk]
      clear hr
      obtain ⟨a0, a1, a2, af0, af1, af2⟩ := L.out.c3
      go_enter Try.func155, Try.ntmps155
      go_wp2
      go_loopw [26] (fun i wr => ∃ k : Nat, k ≤ m ∧ i = .int .i64 k ∧ puresB (ks.take k) = true ∧ Below w.heap.size w wr) (fun i _ => m - (intOf i).toNat)
      case atStart => exact ⟨0, Nat.zero_le _, rfl, D0.out, B.out⟩
      case round =>
        obtain ⟨k, hk, rfl, hp, hbl⟩ := hrel
        have HB := Lib.hid hbl
        have HP := Lib.hid hp
        clear hbl hp L B D0
        by_cases hlt : k < m
        · obtain ⟨x, hx⟩ : ∃ x, ks[k]? = some x := ⟨_, List.getElem?_eq_getElem (by rw [HM.out]; exact hlt)⟩
          obtain ⟨a, l', b', p', n', c', rfl, c0, c1, c2, hi⟩ := HG.out k x hx
          have g1 := HS.out k x hx
          have HX := Lib.hid (ItemIs.below HB.out (Nat.le_refl _) _ _ hi)
          have q0 : wr.cell? (a.add (k * 3)) = some (.bool l') := by rw [HB.out.cell (block_lt_of_cell c0)]; exact c0
          have q1 : wr.cell? ⟨(a.add (k * 3)).block, (a.add (k * 3)).off + 1, none⟩ = some (.string b') := by
            have e : (⟨(a.add (k * 3)).block, (a.add (k * 3)).off + 1, none⟩ : Addr) = a.add (k * 3 + 1) := by rw [← Go.Deep.add_add]; rfl
            rw [e, HB.out.cell (block_lt_of_cell c1)]
            exact c1
          have q2 : wr.cell? ⟨(a.add (k * 3)).block, (a.add (k * 3)).off + 2, none⟩ = some (.slice p' n' c') := by
            have e : (⟨(a.add (k * 3)).block, (a.add (k * 3)).off + 2, none⟩ : Addr) = a.add (k * 3 + 2) := by rw [← Go.Deep.add_add]; rfl
            rw [e, HB.out.cell (block_lt_of_cell c2)]
            exact c2
          clear hi c0 c1 c2
          have L : Hid (RowAt (wr.alloc (itemO l' b' (.slice p' n' c'))) wr.heap.size #[.bool l', .string b', .slice p' n' c'] 98) := Lib.hid (RowAt.new _ _ _)
          replace HB := Lib.hid (HB.out.alloc HB.out.size (itemO l' b' (.slice p' n' c')))
          replace HX := Lib.hid (ItemIs.below ((Below.refl wr.heap.size wr).alloc (Nat.le_refl _) (itemO l' b' (.slice p' n' c'))) (Nat.le_refl _) _ _ HX.out)
          have HD1 := Lib.hid (HD.out k x hx)
          have HF1 := Lib.hid (HF.out k x hx)
          obtain ⟨a0, a1, a2, af0, af1, af2⟩ := L.out.c3
          go_wp2_with fail
          refine (KI.out x g1 _ _ HX.out).mono ?_
          rintro e w2 ⟨rfl, hb⟩
          (replace HB := Lib.hid (HB.out.trans (hb.mono HB.out.size)); clear hb)
          generalize hxp : x.pureB = xp at *
          cases xp with
          | false =>
            go_wp2_with fail
            go_ret
            rw [HR.out, HF1.out trivial]
            exact ⟨rfl, HB.out⟩
          | true =>
            go_wp2_with fail
            go_roundw
            case rel => exact ⟨k + 1, by omega, by go_num, by rw [HD1.out, HP.out]; rfl, HB.out⟩
            case measure => simp [intOf]; omega
        · obtain rfl : k = m := by omega
          have R := Lib.hid (HR.out.trans (DM.out.symm.trans HP.out))
          go_wp2
          go_ret
          rw [R.out]
          exact ⟨rfl, HB.out⟩
end Go.Proofs.Ytefmlbckbhlgdaa
namespace Go.Proofs.Ytefmlbckbhlgdaa
open Go.RowKit
/-- A world in which all that was in 'W' is as it was. -/
def Later (W : World) : Type := { w' : World // Below W.heap.size W w' }
def Later.w {W : World} (u : Later W) : World := u.1
theorem Later.below {W : World} (u : Later W) : Below W.heap.size W u.w := u.2
theorem Later.size {W : World} (u : Later W) : W.heap.size ≤ u.w.heap.size := u.2.size
def Later.of {W w' : World} (h : Below W.heap.size W w') : Later W := ⟨w', h⟩

instance laterNonempty (W : World) : Nonempty (Later W) := ⟨Later.of (Below.refl _ _)⟩

theorem region_later {P : Program} {id : Nat} {Q : Exit → Act → World → Prop} {a : Act} {w : World} {l : List Oper} (hm : P.follows .mixedOrders = true) (hB : Region.lexB .any l.toArray = true)
    (h : wpQuiet P l.toArray (fun w' => ∃ u : Later w, w' = u.w) (fun a' => ∀ w', (∃ u : Later w, w' = u.w) → Q .normal a' w') l a) : (Code.region id l.toArray true).wp P Q a w :=
  wp_region_quiet (C := fun w' => ∃ u : Later w, w' = u.w) hm hB ⟨Later.of (Below.refl w.heap.size w).drew, rfl⟩ (by simpa using h)

theorem Later.call {P : Program} {f : FuncId} {args : Array Value} {v : Value} {W : World} {u : Later W} (h : Calls P f args u.w fun e w' => e = .returned v ∧ Below u.w.heap.size u.w w') :
    Calls P f args u.w fun e w'' => e = .returned v ∧ ∃ u' : Later W, w'' = u'.w :=
  h.mono fun _ _ ⟨he, hb⟩ => ⟨he, Later.of (u.below.trans (hb.mono u.size)), rfl⟩

theorem Later.callSame {P : Program} {f : FuncId} {args : Array Value} {v : Value} {W : World} {u : Later W} (h : Calls P f args u.w fun e w' => e = .returned v ∧ u.w = w') :
    Calls P f args u.w fun e w'' => e = .returned v ∧ ∃ u' : Later W, w'' = u'.w :=
  h.mono fun _ _ ⟨he, hb⟩ => ⟨he, u, hb.symm⟩

theorem RowAt.later {W : World} {k : Nat} {cs : Array Value} {T : TypeId} (h : RowAt W k cs T) (u : Later W) : RowAt u.w k cs T := h.belowS u.below

theorem RowAt.l1 {W : World} {k : Nat} {v0 : Value} {T : TypeId} (h : RowAt W k #[v0] T) : ∀ u : Later W, u.w.cell? ⟨k, 0, none⟩ = some v0 := fun u => (h.later u).cell 0
theorem RowAt.l2 {W : World} {k : Nat} {v0 v1 : Value} {T : TypeId} (h : RowAt W k #[v0, v1] T) : (∀ u : Later W, u.w.cell? ⟨k, 0, none⟩ = some v0) ∧ (∀ u : Later W, u.w.cell? ⟨k, 1, none⟩ = some v1) :=
  ⟨fun u => (h.later u).cell 0, fun u => (h.later u).cell 1⟩
theorem RowAt.l3 {W : World} {k : Nat} {v0 v1 v2 : Value} {T : TypeId} (h : RowAt W k #[v0, v1, v2] T) : (∀ u : Later W, u.w.cell? ⟨k, 0, none⟩ = some v0) ∧ (∀ u : Later W, u.w.cell? ⟨k, 1, none⟩ = some v1) ∧ (∀ u : Later W, u.w.cell? ⟨k, 2, none⟩ = some v2) :=
  ⟨fun u => (h.later u).cell 0, fun u => (h.later u).cell 1, fun u => (h.later u).cell 2⟩
end Go.Proofs.Ytefmlbckbhlgdaa
namespace Go.Proofs.Ytefmlbckbhlgdaa
open Go.RowKit
set_option maxRecDepth 100000
set_option maxHeartbeats 1000000 in
theorem digits_any (n : Nat) (w : World) (hn : n < 18446744073709551616) :
    Calls Try.prog 141 #[.int .u64 n] w fun e w' => e = .returned (.string (mkS (dig n))) ∧ Below w.heap.size w w' := by
  go_enter Try.func141, Try.ntmps141
  go_wp2
  go_loopw [0, 3] (fun s0 s3 wr => ∃ (k : Nat) (l : List UInt8), s0 = .int .u64 k ∧ s3 = .string (mkS l) ∧ dig n = dig k ++ l ∧ k * 256 ^ l.length ≤ n ∧ Below w.heap.size w wr) (fun s0 _ _ => (intOf s0).toNat)
  case atStart => exact ⟨n, [], rfl, rfl, by simp, by simp, Below.refl _ _⟩
  case round =>
    obtain ⟨k, l, rfl, rfl, hd, hle, hbl⟩ := hrel
    by_cases hk : 0 < k
    · have h8 : l.length ≤ 7 := by
        rcases Nat.lt_or_ge l.length 8 with h | h
        · omega
        · have h1 := Nat.pow_le_pow_right (n := 256) (by decide) h
          have h2 : 256 ^ l.length ≤ k * 256 ^ l.length := Nat.le_mul_of_pos_left _ hk
          omega
      have hkn : k < 18446744073709551616 := by
        have := Nat.le_mul_of_pos_right k (Nat.pow_pos (n := l.length) (show 0 < 256 by decide))
        omega
      have hz : (mkS l).size = l.length := mk_size _
      obtain ⟨c, hc, hx⟩ : ∃ c : UInt8, UInt8.ofNat k = c ∧ (k : Int) % 256 = (c.toNat : Int) := ⟨_, rfl, by simp⟩
      have D : Hid (dig n = dig (k / 256) ++ (c :: l)) := Lib.hid (by rw [hd, dig_pos hk, List.append_assoc, hc]; rfl)
      have E : Hid ((⟨[c].toArray⟩ : ByteArray) ++ mkS l = mkS (c :: l)) := Lib.hid (mk_append [c] l)
      have hcv := (OwnB.one (w := wr) (Nat.le_refl _) c hx).conv
      have HB := Lib.hid (hbl.alloc hbl.size (.cells #[.int .u8 ((k : Int) % 256)] 5))
      have h64 : Hid (k / 256 * 256 ^ (c :: l).length ≤ n) := Lib.hid (by
        rw [List.length_cons, Nat.pow_succ, Nat.mul_comm (256 ^ l.length), ← Nat.mul_assoc]
        exact Nat.le_trans (Nat.mul_le_mul_right _ (Nat.div_mul_le_self k 256)) hle)
      clear hd hc hx hbl hle
      generalize hF : mkS (c :: l) = F at *
      have HF := Lib.hid hF
      clear hF
      go_wp2
      go_roundw
      case rel => exact ⟨k / 256, c :: l, by go_num, by rw [HF.out]; exact congrArg _ E.out, D.out, h64.out, HB.out⟩
      case measure => simp [intOf]; omega
    · obtain rfl : k = 0 := by omega
      rw [dig_zero, List.nil_append] at hd
      have HD := Lib.hid hd
      have HB := Lib.hid hbl
      clear hd hle hbl hk
      go_wp2
      go_ret
      rw [HD.out]
      exact ⟨rfl, HB.out⟩

set_option maxHeartbeats 1000000 in
theorem rhead_any (fr n : Nat) (w : World) (hf : fr = 128 ∨ fr = 192) (hn : n < 4611686018427387904) :
    Calls Try.prog 92 #[.int .i64 fr, .int .i64 n] w fun e w' => e = .returned (.string (mkS (headL fr n))) ∧ Below w.heap.size w w' := by
  have hf2 : fr ≤ 192 := by omega
  by_cases h : n ≤ 55
  · obtain ⟨c, hc, hx⟩ : ∃ c : UInt8, UInt8.ofNat (fr + n) = c ∧ (fr : Int) + n = (c.toNat : Int) := ⟨_, rfl, by simp; omega⟩
    have hcv := (OwnB.one (w := w) (Nat.le_refl _) c hx).conv
    have B1 := Lib.hid ((Below.refl w.heap.size w).alloc (Nat.le_refl _) (.cells #[.int .u8 ((fr : Int) + n)] 5))
    rw [headL_short h, hc]
    have s2 : ((fr : Int) + n) % 256 = (fr : Int) + n := by omega
    clear hf hc hx
    go_enter Try.func92, Try.ntmps92
    go_wp2
    go_ret
    exact ⟨rfl, B1.out⟩
  · have hl := dig_len 8 n (by omega)
    have KP := Lib.hid (fun w => digits_any n w (by omega))
    rw [headL, if_neg h]
    have hl0 : 1 ≤ (dig n).length := by rw [dig_pos (by omega), List.length_append]; simp
    have hz : (mkS (dig n)).size = (dig n).length := mk_size _
    obtain ⟨c, hc, hx⟩ : ∃ c : UInt8, UInt8.ofNat (fr + 55 + (dig n).length) = c ∧ (fr : Int) + 55 + (dig n).length = (c.toNat : Int) := ⟨_, rfl, by simp; omega⟩
    rw [hc]
    have E : Hid ((⟨[c].toArray⟩ : ByteArray) ++ mkS (dig n) = mkS (c :: dig n)) := Lib.hid (mk_append [c] (dig n))
    generalize mkS (c :: dig n) = R at *
    generalize (dig n).length = m at *
    generalize mkS (dig n) = D at *
    have s1 : ((fr : Int) + 55 + m) % 256 = (fr : Int) + 55 + m := by omega
    have HX := Lib.hid hx
    clear hf hc hx
    go_enter Try.func92, Try.ntmps92
    go_wp2_with fail
    refine (KP.out _).mono ?_
    rintro e w1 ⟨rfl, hb⟩
    have hcv := (OwnB.one (w := w1) (Nat.le_refl _) c HX.out).conv
    have B1 := Lib.hid (hb.alloc hb.size (.cells #[.int .u8 ((fr : Int) + 55 + m)] 5))
    clear hb
    go_wp2
    go_ret
    exact ⟨by rw [← E.out]; rfl, B1.out⟩
end Go.Proofs.Ytefmlbckbhlgdaa
namespace Go.Proofs.Ytefmlbckbhlgdaa
open Go.RowKit
set_option maxRecDepth 100000
theorem writes_append : ∀ xs ys : List It, writes (xs ++ ys) = writes xs ++ writes ys
  | [], ys => by rw [List.nil_append, writes, List.nil_append]
  | x :: xs, ys => by rw [List.cons_append, writes, writes, writes_append xs ys, List.append_assoc]

theorem writes_take {ks : List It} {i : Nat} {k : It} (h : ks[i]? = some k) : writes (ks.take (i + 1)) = writes (ks.take i) ++ k.write := by
  rw [List.take_add_one, h, writes_append]
  simp [writes]

theorem writes_take_le (ks : List It) (i : Nat) : (writes (ks.take i)).length ≤ (writes ks).length := by
  have h := congrArg List.length (congrArg writes (List.take_append_drop i ks))
  rw [writes_append, List.length_append] at h
  omega

set_option maxRecDepth 100000 in
set_option maxHeartbeats 1000000 in
theorem rwrite_any : ∀ (n : Nat) (x : It), x.size ≤ n → x.write.length ≤ 1000000000 → ∀ (v : Value) (w : World), ItemIs w x v →
    Calls Try.prog 49 #[v] w fun e w' => e = .returned (.string (mkS x.write)) ∧ Below w.heap.size w w'
  | 0, x, h, _, _, _, _ => by have := x.size_pos; omega
  | n + 1, .mk l b ks, hsz, hw, v, w, hv => by
    obtain ⟨kv, rfl, hbz, hk⟩ := itemIs_iff.1 hv
    have KI := Lib.hid (rwrite_any n)
    clear hv
    obtain ⟨p, cap, rfl, h1, h2, hg⟩ := hk.parts
    rw [It.size] at hsz
    have B : Hid (Below w.heap.size w (w.alloc (itemO l (mkS b) (.slice p ks.length cap)))) := Lib.hid ((Below.refl _ _).alloc (Nat.le_refl _) _)
    have L : Hid (RowAt (w.alloc (itemO l (mkS b) (.slice p ks.length cap))) w.heap.size #[.bool l, .string (mkS b), .slice p ks.length cap] 98) := Lib.hid (RowAt.new _ _ _)
    cases l with
    | false =>
      rw [It.write, if_neg (by simp)] at hw ⊢
      have hz : (mkS b).size = b.length := mk_size _
      clear hk hsz hg KI
      by_cases hb : b.length ≠ 1
      · rw [if_neg (fun h => hb h.1)] at hw ⊢
        rw [List.length_append] at hw
        have KH := Lib.hid (fun w => rhead_any 128 b.length w (.inl rfl) (by omega))
        have HZ : (mkS (headL 128 b.length)).size + (mkS b).size ≤ 1000000000 := by rw [mk_size, mk_size]; omega
        have HE : Hid (mkS (headL 128 b.length) ++ mkS b = mkS (headL 128 b.length ++ b)) := Lib.hid (mk_append _ _)
        generalize mkS (headL 128 b.length ++ b) = RS at *
        generalize mkS (headL 128 b.length) = HS' at *
        clear hw
        generalize b.length = bn at *
        obtain ⟨a0, a1, a2, af0, af1, af2⟩ := L.out.c3
        go_enter Try.func49, Try.ntmps49
        go_wp2
        go_upto_region 11 with (fail)
        generalize w.alloc (itemO false (mkS b) (.slice p ks.length cap)) = W at *
        obtain ⟨l0, l1, l2⟩ := L.out.l3
        (refine region_later mix ?hB ?_; case hB => kernel_rfl); (repeat (first | go_big_quiet_step ((go_at_call 92; with_reducible exact Later.call (KH.out _))) | quiet_step ((go_at_call 92; with_reducible exact Later.call (KH.out _))))); (refine wpQuiet_nil ?_; rintro _ ⟨u, rfl⟩)
        go_wp2
        go_ret
        exact ⟨by rw [← HE.out]; rfl, B.out.trans (u.below.mono B.out.size)⟩
      · obtain ⟨c, rfl⟩ : ∃ c, b = [c] := by
          match b, (by omega : b.length = 1) with
          | [c], _ => exact ⟨c, rfl⟩
        have hz1 : (mkS [c]).size = 1 := rfl
        have hg : (mkS [c])[0]'(by rw [hz1]; decide) = c := rfl
        have hcl := c.toNat_lt
        clear hb hz
        by_cases hc : c.toNat < 128
        · rw [if_pos ⟨rfl, by simpa using hc⟩] at hw ⊢
          clear hw
          obtain ⟨a0, a1, a2, af0, af1, af2⟩ := L.out.c3
          go_enter Try.func49, Try.ntmps49
          go_wp2
          go_ret
          exact ⟨rfl, B.out⟩
        · rw [if_neg (fun h => hc (by simpa using h.2))] at hw ⊢
          rw [List.length_append] at hw
          have KH := Lib.hid (fun w => rhead_any 128 [c].length w (.inl rfl) (by simp))
          have HE : Hid (mkS (headL 128 [c].length) ++ mkS [c] = mkS (headL 128 [c].length ++ [c])) := Lib.hid (mk_append _ _)
          have HZ : (mkS (headL 128 [c].length)).size = 1 := by rw [headL_short (by simp)]; rfl
          generalize mkS (headL 128 [c].length ++ [c]) = RS at *
          generalize mkS (headL 128 [c].length) = HS' at *
          clear hw
          obtain ⟨a0, a1, a2, af0, af1, af2⟩ := L.out.c3
          go_enter Try.func49, Try.ntmps49
          go_wp2
          go_upto_region 11 with (fail)
          generalize w.alloc (itemO false (mkS [c]) (.slice p ks.length cap)) = W at *
          obtain ⟨l0, l1, l2⟩ := L.out.l3
          (refine region_later mix ?hB ?_; case hB => kernel_rfl); (repeat (first | go_big_quiet_step ((go_at_call 92; with_reducible exact Later.call (KH.out _))) | quiet_step ((go_at_call 92; with_reducible exact Later.call (KH.out _))))); (refine wpQuiet_nil ?_; rintro _ ⟨u, rfl⟩)
          go_wp2
          go_ret
          exact ⟨by rw [← HE.out]; rfl, B.out.trans (u.below.mono B.out.size)⟩
    | true =>
      rw [It.write, if_pos rfl] at hw ⊢
      rw [List.length_append] at hw
      have HG := Lib.hid hg
      have HS := Lib.hid (fun i k (h : ks[i]? = some k) => (by have := sizes_get h; omega : It.size k ≤ n))
      have HD := Lib.hid (fun i k (h : ks[i]? = some k) => writes_take h)
      have HL := Lib.hid (fun i => (by have := writes_take_le ks i; omega : (writes (ks.take i)).length ≤ 1000000000))
      have D0 : Hid (writes (ks.take 0) = []) := Lib.hid (by simp [writes])
      have DM : Hid (writes (ks.take ks.length) = writes ks) := Lib.hid (by rw [List.take_length])
      have KH := Lib.hid (fun w => rhead_any 192 (writes ks).length w (.inr rfl) (by omega))
      have HZ : (mkS (headL 192 (writes ks).length)).size + (mkS (writes ks)).size ≤ 1000000000 := by rw [mk_size, mk_size]; omega
      have HE : Hid (mkS (headL 192 (writes ks).length) ++ mkS (writes ks) = mkS (headL 192 (writes ks).length ++ writes ks)) := Lib.hid (mk_append _ _)
      have HZ2 : (mkS (writes ks)).size = (writes ks).length := mk_size _
      clear hk hsz hg hbz hw
      generalize mkS (headL 192 (writes ks).length ++ writes ks) = RS at *
      generalize hm : ks.length = m at *
      have HM := Lib.hid hm
      clear hm
      obtain ⟨a0, a1, a2, af0, af1, af2⟩ := L.out.c3
      go_enter Try.func49, Try.ntmps49
      go_wp2
      go_loopw [3, 11] (fun s i wr => ∃ k : Nat, k ≤ m ∧ i = .int .i64 k ∧ s = .string (mkS (writes (ks.take k))) ∧ Below w.heap.size w wr) (fun _ i _ => m - (intOf i).toNat)
      case atStart => exact ⟨0, Nat.zero_le _, rfl, by rw [D0.out]; rfl, B.out⟩
      case round =>
        obtain ⟨k, hk, rfl, rfl, hbl⟩ := hrel
        have HB := Lib.hid hbl
        clear hbl L B D0
        by_cases hlt : k < m
        · obtain ⟨x, hx⟩ : ∃ x, ks[k]? = some x := ⟨_, List.getElem?_eq_getElem (by rw [HM.out]; exact hlt)⟩
          obtain ⟨a, l', b', p', n', c', rfl, c0, c1, c2, hi⟩ := HG.out k x hx
          have g1 := HS.out k x hx
          have HX := Lib.hid (ItemIs.below HB.out (Nat.le_refl _) _ _ hi)
          have q0 : wr.cell? (a.add (k * 3)) = some (.bool l') := by rw [HB.out.cell (block_lt_of_cell c0)]; exact c0
          have q1 : wr.cell? ⟨(a.add (k * 3)).block, (a.add (k * 3)).off + 1, none⟩ = some (.string b') := by
            have e : (⟨(a.add (k * 3)).block, (a.add (k * 3)).off + 1, none⟩ : Addr) = a.add (k * 3 + 1) := by rw [← Go.Deep.add_add]; rfl
            rw [e, HB.out.cell (block_lt_of_cell c1)]
            exact c1
          have q2 : wr.cell? ⟨(a.add (k * 3)).block, (a.add (k * 3)).off + 2, none⟩ = some (.slice p' n' c') := by
            have e : (⟨(a.add (k * 3)).block, (a.add (k * 3)).off + 2, none⟩ : Addr) = a.add (k * 3 + 2) := by rw [← Go.Deep.add_add]; rfl
            rw [e, HB.out.cell (block_lt_of_cell c2)]
            exact c2
          clear hi c0 c1 c2
          have L : Hid (RowAt (wr.alloc (itemO l' b' (.slice p' n' c'))) wr.heap.size #[.bool l', .string b', .slice p' n' c'] 98) := Lib.hid (RowAt.new _ _ _)
          replace HB := Lib.hid (HB.out.alloc HB.out.size (itemO l' b' (.slice p' n' c')))
          replace HX := Lib.hid (ItemIs.below ((Below.refl wr.heap.size wr).alloc (Nat.le_refl _) (itemO l' b' (.slice p' n' c'))) (Nat.le_refl _) _ _ HX.out)
          have HD1 := Lib.hid (HD.out k x hx)
          have hz1 := HL.out (k + 1)
          rw [HD1.out, List.length_append] at hz1
          have hz2 : (mkS (writes (ks.take k))).size = (writes (ks.take k)).length := mk_size _
          have hz3 : (mkS x.write).size = x.write.length := mk_size _
          have HE1 : Hid (mkS (writes (ks.take k)) ++ mkS x.write = mkS (writes (ks.take k) ++ x.write)) := Lib.hid (mk_append _ _)
          have hxl : x.write.length ≤ 1000000000 := by omega
          obtain ⟨a0, a1, a2, af0, af1, af2⟩ := L.out.c3
          go_wp2_with fail
          refine (KI.out x g1 hxl _ _ HX.out).mono ?_
          rintro e w2 ⟨rfl, hb⟩
          (replace HB := Lib.hid (HB.out.trans (hb.mono HB.out.size)); clear hb)
          go_wp2_with fail
          go_roundw
          case rel => exact ⟨k + 1, by omega, by go_num, by rw [HD1.out, ← HE1.out], HB.out⟩
          case measure => simp [intOf]; omega
        · obtain rfl : k = m := by omega
          rw [DM.out]
          generalize writes ks = W at *
          generalize mkS W = WS at *
          generalize mkS (headL 192 W.length) = HS' at *
          go_wp2_with fail
          refine (KH.out _).mono ?_
          rintro e w2 ⟨rfl, hb⟩
          (replace HB := Lib.hid (HB.out.trans (hb.mono HB.out.size)); clear hb)
          go_wp2_with fail
          go_ret
          exact ⟨by rw [← HE.out]; rfl, HB.out⟩
end Go.Proofs.Ytefmlbckbhlgdaa
namespace Go.Proofs.Ytefmlbckbhlgdaa
open Go.RowKit Go.Shelf
set_option maxRecDepth 100000
def bldLenRen : Go.Shelf.Ren := ⟨fun | 170 => 135 | n => n, fun | 70 => 184 | 3 => 3 | 0 => 0 | 72 => 186 | 37 => 123 | 5 => 5 | n => n, fun | n => n⟩
theorem bldLenLays : Go.Proofs.Lays.n170 Try.prog bldLenRen := {
  mixed := by kernel_rfl
  f170 := Try.func135.trans (congrArg some (by kernel_rfl))
  t0 := Try.underlying0
  a0 := Try.isAgg0
  z0 := Try.sizeOf0
  v0 := Try.zeroValue0
  t3 := Try.underlying3
  a3 := Try.isAgg3
  z3 := Try.sizeOf3
  v3 := Try.zeroValue3
  t37 := Try.underlying123
  a37 := Try.isAgg123
  z37 := Try.sizeOf123
  v37 := Try.zeroValue123
  t70 := Try.underlying184
  a70 := Try.isAgg184
  z70 := Try.sizeOf184
  v70 := Try.zeroValue184
  t72 := Try.underlying186
  a72 := Try.isAgg186
  z72 := Try.sizeOf186
  v72 := Try.zeroValue186 }

theorem bld_len (B b : Nat) (bs : List Value) (w : World) (h : Lib.IsBuilder 186 5 B b bs w) :
    Calls Try.prog 135 #[.pointer (some ⟨b, 0, none⟩)] w fun e w' => e = .returned (.int .i64 bs.length) ∧ w' = w := Any.Builder_Len bldLenLays B b bs w h

def bldStrRen : Go.Shelf.Ren := ⟨fun | 169 => 136 | n => n, fun | 70 => 184 | 9 => 9 | 0 => 0 | 72 => 186 | 37 => 123 | 127 => 223 | 3 => 3 | 5 => 5 | n => n, fun | n => n⟩
theorem bldStrLays : Go.Proofs.Lays.n169 Try.prog bldStrRen := {
  mixed := by kernel_rfl
  f169 := Try.func136.trans (congrArg some (by kernel_rfl))
  t0 := Try.underlying0
  a0 := Try.isAgg0
  z0 := Try.sizeOf0
  v0 := Try.zeroValue0
  t3 := Try.underlying3
  a3 := Try.isAgg3
  z3 := Try.sizeOf3
  v3 := Try.zeroValue3
  t9 := Try.underlying9
  a9 := Try.isAgg9
  z9 := Try.sizeOf9
  v9 := Try.zeroValue9
  t37 := Try.underlying123
  a37 := Try.isAgg123
  z37 := Try.sizeOf123
  v37 := Try.zeroValue123
  t70 := Try.underlying184
  a70 := Try.isAgg184
  z70 := Try.sizeOf184
  v70 := Try.zeroValue184
  t72 := Try.underlying186
  a72 := Try.isAgg186
  z72 := Try.sizeOf186
  v72 := Try.zeroValue186
  t127 := Try.underlying223
  a127 := Try.isAgg223
  z127 := Try.sizeOf223
  v127 := Try.zeroValue223 }
theorem bldStrExtra : Builder.Extra Try.prog bldStrRen := {
  sizeBuilder := by kernel_rfl
  liesBuilder := by kernel_rfl
  t5 := Try.underlying5
  a5 := Try.isAgg5
  z5 := Try.sizeOf5
  v5 := Try.zeroValue5
  infoByte := by kernel_rfl
  cellsByte := by kernel_rfl
  sizeByte := by kernel_rfl
  neB5 := by decide }

theorem bld_string (B b : Nat) (l : List UInt8) (w : World) (h : Lib.IsBuilder 186 5 B b (Lib.byteCells l) w) (hBw : B ≤ w.heap.size) :
    Calls Try.prog 136 #[.pointer (some ⟨b, 0, none⟩)] w fun e w' => e = .returned (.string ⟨l.toArray⟩) ∧ Below B w w' := Any.Builder_String_any bldStrLays bldStrExtra B b l w h hBw

set_option maxHeartbeats 1000000 in
set_option maxRecDepth 100000 in
theorem bld_check_used (b : Nat) (w : World) (h0 : w.cell? ⟨b, 0, none⟩ = some (.pointer (some ⟨b, 0, none⟩))) :
    Calls Try.prog 162 #[.pointer (some ⟨b, 0, none⟩)] w fun e w' => e = .returned (.tuple #[]) ∧ w' = w := by
  obtain ⟨j, hj, _⟩ := Option.map_eq_some_iff.1 bldStrExtra.sizeBuilder
  go_enter Try.func162, Try.ntmps162
  go_wp2
  rw [Lib.run_neq_ptr_same w _ Try.underlying184 hj]
  go_wp2
  go_end0
  exact ⟨rfl, rfl⟩

set_option maxHeartbeats 1000000 in
set_option maxRecDepth 100000 in
theorem bld_check_fresh (b : Nat) (w : World) (h0 : w.cell? ⟨b, 0, none⟩ = some (.pointer none)) (hsh : w.shape? b = some (186, 2)) (hfz : w.frozen? ⟨b, 0, none⟩ = false) :
    Calls Try.prog 162 #[.pointer (some ⟨b, 0, none⟩)] w fun e w' => e = .returned (.tuple #[]) ∧ w' = w.setCell ⟨b, 0, none⟩ (.pointer (some ⟨b, 0, none⟩)) := by
  obtain ⟨j, hj, hjs⟩ := Option.map_eq_some_iff.1 bldStrExtra.sizeBuilder
  go_enter Try.func162, Try.ntmps162
  go_wp2
  rw [Lib.run_to_unsafe w ⟨b, 0, none⟩ Try.underlying184 Try.underlying233 hj (by rw [hjs]; decide) hsh (Nat.zero_lt_succ 1)]
  simp only [Result.andThen]
  rw [Oper.upon_value]
  go_wp2
  rw [run_callFunc_extern Try.func175 (by kernel_rfl) (by kernel_rfl) (by kernel_rfl) (e := Extern.AbiNoEscape.same) (by kernel_rfl)]
  rw [Lib.run_noEscape]
  simp only [Result.andThen]
  rw [Oper.upon_value]
  go_wp2
  rw [Lib.run_from_unsafe w ⟨b, 0, none⟩ Try.underlying233 Try.underlying184 hj hsh bldStrExtra.liesBuilder]
  simp only [Result.andThen]
  rw [Oper.upon_value]
  go_wp2
  go_end0
  exact ⟨rfl, rfl⟩

theorem bld_check (B b : Nat) (bs : List Value) (w : World) (h : Lib.IsBuilder 186 5 B b bs w) :
    Calls Try.prog 162 #[.pointer (some ⟨b, 0, none⟩)] w fun e w' => e = .returned (.tuple #[]) ∧ (Lib.BuilderAt 186 5 B b (.pointer (some ⟨b, 0, none⟩)) bs w' ∧ Below B w w') := by
  rcases h with h | h
  · refine (bld_check_fresh b w h.cell0 h.shape h.frozen0).mono ?_
    rintro e w' ⟨rfl, rfl⟩
    exact ⟨rfl, h.used _, (Below.refl B w).setCell (p := ⟨b, 0, none⟩) h.1 _⟩
  · refine (bld_check_used b w h.cell0).mono ?_
    rintro e w' ⟨rfl, rfl⟩
    exact ⟨rfl, h, Below.refl B _⟩

set_option maxHeartbeats 2000000 in
set_option maxRecDepth 100000 in
theorem bld_write (B b : Nat) (bs : List Value) (s : ByteArray) (w : World) (h : Lib.IsBuilder 186 5 B b bs w) (hlen : bs.length + s.size ≤ 140737488355328) (hBw : B ≤ w.heap.size) :
    Calls Try.prog 133 #[.pointer (some ⟨b, 0, none⟩), .string s] w fun e w' => e = .returned (.tuple #[.int .i64 s.size, .nilIface]) ∧ (Lib.BuilderAt 186 5 B b (.pointer (some ⟨b, 0, none⟩)) (bs ++ Lib.strCells s) w' ∧ Below B w w') := by
  obtain ⟨i0, hi, hz0, hz1, hz2⟩ := info_parts bldStrExtra.infoByte
  go_enter Try.func133, Try.ntmps133
  go_wp2_with (go_at_call 162; refine (bld_check B b bs _ h).mono ?_)
  rintro e w1 ⟨rfl, h1, hb1⟩
  obtain ⟨hB, v, hbk, hown, hne⟩ := h1
  have c0 : w1.cell? ⟨b, 0, none⟩ = some (.pointer (some ⟨b, 0, none⟩)) := by rw [Lib.cell_of_heap hbk]; rfl
  have c1 : w1.cell? ⟨b, 1, none⟩ = some v := by rw [Lib.cell_of_heap hbk]; rfl
  go_wp2_with (at_builtin; refine Lib.wpList_append_own_string _ rfl _ _ 123 9 rfl B 5 i0 Try.underlying123 Try.underlying9 hi hz0 hz1 hz2 _ _ _ rfl hown s rfl ?c3 ?c4 ?c5 ?_)
  case c3 => unfold maxLen; omega
  case c4 => omega
  case c5 => have := hb1.size; omega
  intro v' w2 hown' hgrow _
  have hlt : b < w1.heap.size := by
    rcases Nat.lt_or_ge b w1.heap.size with h' | h'
    · exact h'
    · simp [Array.getElem?_eq_none h'] at hbk
  have hb2 : w2.heap[b]? = some (.cells #[.pointer (some ⟨b, 0, none⟩), v] 186 (0, 0)) := by
    rw [hgrow.block b hlt (fun e => hne e.symm)]
    exact hbk
  have d0 : w2.cell? ⟨b, 0, none⟩ = some (.pointer (some ⟨b, 0, none⟩)) := by rw [Lib.cell_of_heap hb2]; rfl
  have d1 : w2.cell? ⟨b, 1, none⟩ = some v := by rw [Lib.cell_of_heap hb2]; rfl
  have f1 : w2.frozen? ⟨b, 1, none⟩ = false := Lib.frozen_of_heap hb2 1
  obtain ⟨ao, n', cap, rfl⟩ : ∃ ao n' cap, v' = .slice ao n' cap := by
    rcases hown'.2 with ⟨hv, _⟩ | ⟨g, cap, cur, hv, _⟩
    · exact ⟨_, _, _, hv⟩
    · exact ⟨_, _, _, hv⟩
  go_wp2
  go_ret2
  refine ⟨rfl, ?_, ?_⟩
  · exact Lib.BuilderAt.put (T := 186) (e := 5) hB hb2 (bs' := bs ++ Lib.strCells s) (by simpa [Lib.strCells_length] using hown') bldStrExtra.neB5
  · exact (hb1.grown hgrow (by have := hb1.size; omega) (fun k hk => (hown.lt k hk).1)).setCell (p := ⟨b, 1, none⟩) hB _
end Go.Proofs.Ytefmlbckbhlgdaa

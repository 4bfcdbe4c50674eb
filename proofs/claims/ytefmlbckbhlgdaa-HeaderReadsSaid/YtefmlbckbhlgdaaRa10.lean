/- Frame: Write, by a form. Frame: one item as a field (given a list's contract). -/
import Derived.Test.YtefmlbckbhlgdaaRa9
namespace Go.Proofs.Ytefmlbckbhlgdaa
open Go.RowKit
theorem someW_count {f : List UInt8 → Option (Kd × Nat)} (hf : ∀ s k n, f s = some (k, n) → k.count ≤ n) : ∀ (m : Nat) (s : List UInt8), counts (someW f m s).1 ≤ (someW f m s).2
  | 0, s => Nat.le_refl _
  | m + 1, s => by
    rw [someW]
    cases h : f s with
    | none => exact Nat.le_refl _
    | some r =>
      obtain ⟨k, n⟩ := r
      have h1 := hf s k n h
      have h2 := someW_count hf m (s.drop n)
      show counts (k :: (someW f m (s.drop n)).1) ≤ n + (someW f m (s.drop n)).2
      rw [counts]
      omega
theorem oneL_count : ∀ (d : Nat) (s : List UInt8) (k : Kd) (n : Nat), oneL d s = some (k, n) → k.count ≤ n
  | 0, s, k, n, h => by rw [oneL] at h; cases h
  | d + 1, [], k, n, h => by rw [oneL] at h; cases h
  | d + 1, c :: t, k, n, h => by
    rw [oneL] at h
    split at h
    · injection h with h
      injection h with h1 h2
      subst h1 h2
      simp [Tr.count, counts]
    · split at h
      · split at h
        · cases h
        · rename_i k' n' h'
          split at h
          · injection h with h
            injection h with h1 h2
            subst h1 h2
            have := oneL_count d t k' n' h'
            rw [Tr.count, counts, counts]
            omega
          · cases h
      · split at h
        · split at h
          · injection h with h
            injection h with h1 h2
            subst h1 h2
            have := someW_count (oneL_count d) (t.length + 1) t
            rw [Tr.count]
            omega
          · cases h
        · cases h
theorem kindsL_count {s : List UInt8} {ks : List Kd} (h : kindsL s = some ks) : counts ks ≤ 40 := by
  unfold kindsL at h
  split at h
  · rename_i h'
    injection h with h
    subst h
    have : counts (someL 5 s).1 ≤ (someL 5 s).2 := someW_count (oneL_count 5) _ _
    omega
  · cases h
theorem counts_mem {α : Type} : ∀ {l : List (Tr α)} {k : Tr α}, k ∈ l → k.count ≤ counts l
  | [], k, h => by cases h
  | x :: l, k, h => by
    rw [counts]
    rcases List.mem_cons.1 h with rfl | h
    · omega
    · have := counts_mem h
      omega
theorem ksOk_mem : ∀ {l : List Kd}, ksOk l → ∀ k ∈ l, kOk k
  | [], _, f, h => by cases h
  | x :: l, h, f, hf => by
    rw [ksOk] at h
    rcases List.mem_cons.1 hf with rfl | hf
    · exact h.1
    · exact ksOk_mem h.2 f hf

theorem item_any : ∀ (n : Nat) (k : Kd), k.count ≤ n → n ≤ 1000 → kOk k → ItemC k
  | 0, .mk c ks, h, _, _ => by rw [Tr.count] at h; omega
  | n + 1, .mk c ks, h, hn, hk => by
    rw [Tr.count] at h
    have hl := counts_len ks
    refine item_of c ks (items_of c ks hk (by omega) (fun kd hkd => ?_))
    have := counts_mem hkd
    rw [kOk] at hk
    exact item_any n kd (by omega) (by omega) (ksOk_mem hk.2 kd hkd)
theorem items_any {ks : List Kd} (hk : ksOk ks) (hc : counts ks ≤ 40) : ItemsC (.mk 40 ks) := by
  have hl := counts_len ks
  refine items_of 40 ks (by rw [kOk]; exact ⟨.inr (.inl rfl), hk⟩) (by omega) (fun kd hkd => ?_)
  have := counts_mem hkd
  exact item_any 40 kd (by omega) (by omega) (ksOk_mem hk kd hkd)

/-! ### How much an item weighs -/
theorem mapM_weight {g : Fd → Option It} {N : Nat} : ∀ {l : List Fd} {xs : List It}, (∀ f ∈ l, ∀ x, g f = some x → x.weight ≤ N * f.count) → l.mapM g = some xs → weights xs ≤ N * counts l
  | [], xs, _, h => by simp at h; subst h; simp [weights, counts]
  | a :: l, xs, hg, h => by
    rw [List.mapM_cons] at h
    simp only [Option.bind_eq_bind, Option.bind_eq_some_iff, Option.pure_def, Option.some.injEq] at h
    obtain ⟨x, h1, ys, h2, rfl⟩ := h
    have e1 := hg a (by simp) x h1
    have e2 := mapM_weight (fun f hf => hg f (by simp [hf])) h2
    rw [weights, counts, Nat.mul_add]
    omega
theorem sizeK_le (c : UInt8) : sizeK c ≤ 65 := by unfold sizeK; split <;> (try split) <;> (try split) <;> omega
mutual
theorem itemK_weight : ∀ (k : Kd) (f : Fd) (x : It), fOk f → itemK k f = some x → x.weight ≤ 66 * f.count
  | .mk c ks, .mk (n, b) l, x, hf, h => by
    rw [itemK] at h
    rw [fOk] at hf
    rw [Tr.count]
    split at h
    · split at h
      · injection h with h
        subst h
        have : (dig n).length ≤ 8 := dig_len8 hf.1
        rw [It.weight, weights]
        omega
      · cases h
    · split at h
      · split at h
        · rename_i hb
          injection h with h
          subst h
          rw [It.weight, weights]
          omega
        · cases h
      · split at h
        · split at h
          · obtain ⟨xs, h1, rfl⟩ := Option.map_eq_some_iff.1 h
            have := starI_weight ks l xs hf.2 h1
            rw [It.weight, List.length_nil]
            omega
          · cases h
        · split at h
          · split at h
            · obtain ⟨xs, h1, rfl⟩ := Option.map_eq_some_iff.1 h
              have := rowI_weight ks l xs hf.2 h1
              rw [It.weight, List.length_nil]
              omega
            · cases h
          · split at h
            · rename_i hb
              injection h with h
              subst h
              have := sizeK_le c
              rw [It.weight, weights]
              omega
            · cases h
theorem starI_weight : ∀ (ks : List Kd) (l : List Fd) (xs : List It), fsOk l → starI ks l = some xs → weights xs ≤ 66 * counts l
  | [], l, xs, _, h => by rw [starI] at h; cases h
  | k :: ks, l, xs, hf, h => by
    rw [starI] at h
    exact mapM_weight (fun f hm x hx => itemK_weight k f x (fsOk_mem hf f hm) hx) h
theorem rowI_weight : ∀ (ks : List Kd) (l : List Fd) (xs : List It), fsOk l → rowI ks l = some xs → weights xs ≤ 66 * counts l
  | [], [], xs, _, h => by rw [rowI] at h; injection h with h; subst h; simp [weights, counts]
  | k :: ks, f :: l, xs, hf, h => by
    rw [rowI] at h
    rw [fsOk] at hf
    obtain ⟨x, h1, h2⟩ := Option.bind_eq_some_iff.1 h
    obtain ⟨ys, h3, rfl⟩ := Option.map_eq_some_iff.1 h2
    have e1 := itemK_weight k f x hf.1 h1
    have e2 := rowI_weight ks l ys hf.2 h3
    rw [weights, counts]
    omega
  | [], _ :: _, xs, _, h => by rw [rowI] at h; cases h
  | _ :: _, [], xs, _, h => by rw [rowI] at h; cases h
end
theorem itemsT_weight {ks : List Kd} {l : List Fd} {x : It} (hf : fsOk l) (h : itemsT (.mk 40 ks) l = some x) : x.weight ≤ 66 * counts l + 1 := by
  rw [itemsT, if_neg (by decide)] at h
  obtain ⟨xs, h1, rfl⟩ := Option.map_eq_some_iff.1 h
  have := rowI_weight ks l xs hf h1
  rw [It.weight, List.length_nil]
  omega

/-! ### A row of items, as the codec reads it -/
theorem itTs_get {l : List It} {i : Nat} {x : It} (h : l[i]? = some x) : (itTs l)[i]? = some (itT x) := by rw [itTs_map, List.getElem?_map, h]; rfl
theorem weights_mem : ∀ {l : List It} {x : It}, x ∈ l → x.weight ≤ weights l
  | [], x, h => by cases h
  | y :: l, x, h => by
    rw [weights]
    rcases List.mem_cons.1 h with rfl | h
    · omega
    · have := weights_mem h
      omega
theorem KidsAt.mk {w : World} {a : Addr} : ∀ (ks : List It) (j : Nat), (∀ i k, ks[i]? = some k → ∃ v0 v1 v2, w.cell? (a.add ((j + i) * 3)) = some v0 ∧ w.cell? (a.add ((j + i) * 3 + 1)) = some v1 ∧ w.cell? (a.add ((j + i) * 3 + 2)) = some v2 ∧ ItemIs w k (.agg #[v0, v1, v2])) → KidsAt w ks a j
  | [], _, _ => by rw [KidsAt]; trivial
  | k :: ks, j, h => by
    rw [KidsAt]
    refine ⟨h 0 k rfl, KidsAt.mk ks (j + 1) fun i k' hk => ?_⟩
    have := h (i + 1) k' (by simpa using hk)
    rwa [show j + (i + 1) = j + 1 + i by omega] at this
theorem kidsIs_of {A : Nat → Prop} {w : World} : ∀ (N : Nat) (ks : List It) (p : Option Addr) (n c : Nat), weights ks ≤ N → N ≤ 9223372036854775807 → RowT encIt A w (.slice p n c) (itTs ks) → KidsIs w ks (.slice p n c)
  | N, ks, p, n, c, hN, hM, h => by
    have hr := h
    obtain ⟨h1, h2, h3⟩ := RowT.sane h
    rw [itTs_map, List.length_map] at h1
    unfold maxLen at h3
    cases p with
    | none =>
      obtain ⟨xs, hl, hx, _⟩ := h
      obtain ⟨_, _, _, h4⟩ := RowE.sane hx
      have hc := h4 rfl
      subst hc
      obtain rfl : n = 0 := by omega
      exact .inl ⟨rfl, List.eq_nil_of_length_eq_zero h1.symm⟩
    | some ad =>
      refine .inr ⟨ad, n, c, rfl, h2, by omega, h1.symm, KidsAt.mk ks 0 fun i k hk => ?_⟩
      obtain ⟨ad', s, e, hc, hp⟩ := RowT.at2 hr (itTs_get hk)
      injection e with e
      subst e
      obtain ⟨l, b, kk⟩ := k
      obtain ⟨p', n', c'⟩ := s
      have hw := weights_mem (List.mem_of_getElem? hk)
      rw [It.weight] at hw
      have c0 := hc 0 _ rfl
      have c1 := hc 1 _ rfl
      have c2 := hc 2 _ rfl
      rw [Go.Deep.add_add] at c0 c1 c2
      rw [Nat.zero_add]
      refine ⟨_, _, _, c0, c1, c2, ?_⟩
      rw [itemIs_iff]
      match N, hN, hM with
      | 0, hN, hM => omega
      | N + 1, hN, hM => exact ⟨.slice p' n' c', rfl, by omega, kidsIs_of N kk p' n' c' (by omega) (by omega) hp⟩

theorem ItemPost.none_of {w w' : World} {e : Ending} (h : ItemPost none w e w') : ∃ l b p n c, e = .returned (.tuple #[.agg #[.bool l, .string (mkS b), .slice p n c], .bool false]) ∧ Below w.heap.size w w' := by
  obtain ⟨l, b, p, n, c, is, rfl, hb, h'⟩ := h
  rcases h' with ⟨_, rfl⟩ | ⟨_, h', _⟩
  · exact ⟨l, b, p, n, c, rfl, hb⟩
  · cases h'
theorem ItemPost.some_of {w w' : World} {e : Ending} {l : Bool} {b : List UInt8} {ks : List It} (h : ItemPost (some (.mk l b ks)) w e w') : ∃ p n c, e = .returned (.tuple #[.agg #[.bool l, .string (mkS b), .slice p n c], .bool true]) ∧ Below w.heap.size w w' ∧ RowT encIt (fun b => w.heap.size ≤ b) w' (.slice p n c) (itTs ks) := by
  obtain ⟨l', b', p, n, c, is, rfl, hb, h'⟩ := h
  rcases h' with ⟨h', _⟩ | ⟨ks', h', rfl, hr⟩
  · cases h'
  · injection h' with h'
    injection h' with e1 e2 e3
    subst e1 e2 e3
    exact ⟨p, n, c, rfl, hb, hr⟩

set_option maxRecDepth 100000 in
set_option maxHeartbeats 2000000 in
theorem fwrite_any (s : ByteArray) (v : Value) (l : List Fd) (w : World) (hs : s.size ≤ 1000) (hl : fsOk l) (h : RowT encFd (fun _ => True) w v l) :
    Calls Try.prog 54 #[.string s, v] w fun e w' => e = .returned (.tuple #[.string (mkS (writeF (bl s) l).1), .int .i64 (writeF (bl s) l).2]) ∧ Below w.heap.size w w' := by
  have KK := Lib.hid (fun W => kinds_any s W hs)
  have HP := Lib.hid h
  obtain ⟨p, cap, rfl, s1, s2⟩ := RowT.shape h
  have KC : ∀ W, Below w.heap.size w W → Calls Try.prog 99 #[.slice p l.length cap] W fun e w' => e = .returned (.bool (decide (counts l ≤ 1000))) ∧ Below W.heap.size W w' := fun W hb => fcount_any _ l W (RowT.below h hb (Nat.le_refl _))
  have HF : ∀ W, Below w.heap.size w W → RowT encFd (fun _ => True) W (slV (p, l.length, cap)) l := fun W hb => RowT.below h hb (Nat.le_refl _)
  replace KC := Lib.hid KC
  replace HF := Lib.hid HF
  have HOK := Lib.hid hl
  unfold maxLen at s2
  have HB := Lib.hid (Below.refl w.heap.size w)
  cases hk : kindsL (bl s) with
  | none =>
    have HR : Hid (writeF (bl s) l = ([], 1)) := Lib.hid (by unfold writeF; rw [hk])
    generalize writeF (bl s) l = r at *
    rw [hk] at KK
    clear h hl hk hs
    go_enter Try.func54, Try.ntmps54
    go_wp2_with (go_at_call 51; refine (KK.out _).mono ?_; rintro e w1 ⟨v, rfl, -, ⟨p1, n1, c1, rfl⟩, hb⟩; have HB1 := Lib.hid hb; clear hb)
    go_ret2
    rw [HR.out]
    exact ⟨rfl, HB1.out⟩
  | some ks =>
    rw [hk] at KK
    have HKO := Lib.hid (kindsL_ok hk)
    have HKC := Lib.hid (kindsL_count hk)
    by_cases hc : counts l ≤ 1000
    · have HIA := Lib.hid (items_any HKO.out HKC.out)
      cases hi : itemsT (.mk 40 ks) l with
      | none =>
        have HR : Hid (writeF (bl s) l = ([], 1)) := Lib.hid (by unfold writeF; simp only [hk, if_pos hc, hi])
        generalize writeF (bl s) l = r at *
        rw [decide_eq_true hc] at KC
        have HI := Lib.hid hi
        clear h hl hk hs hc hi
        go_enter Try.func54, Try.ntmps54
        go_wp2_with (first
          | (go_at_call 51; refine (KK.out _).mono ?_; rintro e w1 ⟨v, rfl, hrow, ⟨p1, n1, c1, rfl⟩, hb⟩; have HRW := Lib.hid (hrow ks rfl); have HB1 := Lib.hid hb; clear hrow hb)
          | (go_at_call 99; refine (KC.out _ HB1.out).mono ?_; rintro e w2 ⟨rfl, hb⟩; have HRW2 := Lib.hid (RowT.below HRW.out hb (Nat.le_refl _)); have HB2 := Lib.hid (HB1.out.trans (hb.mono HB1.out.size)); clear hb)
          | (go_at_call 100; refine (HIA.out (p1, n1, c1) l (p, l.length, cap) _ HOK.out (HRW2.out.weaken (fun _ _ => trivial)) (HF.out _ HB2.out)).mono ?_; intro e w3 hpost; rw [HI.out] at hpost; obtain ⟨l', b', p', n', c', rfl, hb⟩ := hpost.none_of; have HB3 := Lib.hid (HB2.out.trans (hb.mono HB2.out.size)); clear hb hpost))
        go_ret2
        rw [HR.out]
        exact ⟨rfl, HB3.out.alloc HB3.out.size _⟩
      | some x =>
        have hw := itemsT_weight hl hi
        obtain ⟨l0, b0, ks0⟩ := x
        have HR : Hid (writeF (bl s) l = (It.mk l0 b0 ks0).enc) := Lib.hid (by unfold writeF; simp only [hk, if_pos hc, hi])
        generalize writeF (bl s) l = r at *
        have HKI : Hid (∀ W p n c, RowT encIt (fun _ => True) W (.slice p n c) (itTs ks0) → Calls Try.prog 45 #[.agg #[.bool l0, .string (mkS b0), .slice p n c]] W fun e w' => e = .returned (.tuple #[.string (mkS r.1), .int .i64 r.2]) ∧ Below W.heap.size W w') := Lib.hid (fun W p n c h => by
          have hwt := write_le (.mk l0 b0 ks0) (by omega)
          rw [HR.out]
          refine encode_any (.mk l0 b0 ks0) _ W (itemIs_iff.2 ⟨.slice p n c, rfl, ?_, kidsIs_of 100000 ks0 p n c ?_ (by omega) h⟩) (fun _ _ => by omega)
          · rw [It.weight] at hw; omega
          · rw [It.weight] at hw; omega)
        rw [decide_eq_true hc] at KC
        have HI := Lib.hid hi
        clear h hl hk hs hc hi hw
        go_enter Try.func54, Try.ntmps54
        go_wp2_with (first
          | (go_at_call 51; refine (KK.out _).mono ?_; rintro e w1 ⟨v, rfl, hrow, ⟨p1, n1, c1, rfl⟩, hb⟩; have HRW := Lib.hid (hrow ks rfl); have HB1 := Lib.hid hb; clear hrow hb)
          | (go_at_call 99; refine (KC.out _ HB1.out).mono ?_; rintro e w2 ⟨rfl, hb⟩; have HRW2 := Lib.hid (RowT.below HRW.out hb (Nat.le_refl _)); have HB2 := Lib.hid (HB1.out.trans (hb.mono HB1.out.size)); clear hb)
          | (go_at_call 100; refine (HIA.out (p1, n1, c1) l (p, l.length, cap) _ HOK.out (HRW2.out.weaken (fun _ _ => trivial)) (HF.out _ HB2.out)).mono ?_; intro e w3 hpost; rw [HI.out] at hpost; obtain ⟨p', n', c', rfl, hb, hrow⟩ := hpost.some_of; have HB3 := Lib.hid (HB2.out.trans (hb.mono HB2.out.size)); have HROW := Lib.hid (RowT.below (RowT.weaken (fun _ _ => trivial) hrow : RowT encIt (fun _ => True) w3 (.slice p' n' c') (itTs ks0)) (bel1 w3 (.cells #[.bool l0, .string (mkS b0), .slice p' n' c'] 98)) (Nat.le_refl _)); have R3 := Lib.hid (RowAt.new w3 #[.bool l0, .string (mkS b0), .slice p' n' c'] 98); obtain ⟨a0, a1, a2, af0, af1, af2⟩ := R3.out.c3; have HB4 := Lib.hid (HB3.out.alloc HB3.out.size (.cells #[.bool l0, .string (mkS b0), .slice p' n' c'] 98)); clear hb hpost hrow)
          | (go_at_call 45; refine (HKI.out _ _ _ _ HROW.out).mono ?_; rintro e w4 ⟨rfl, hb⟩; have HB5 := Lib.hid (HB4.out.trans (hb.mono HB4.out.size)); clear hb))
        go_ret2
        exact ⟨rfl, HB5.out⟩
    · have HR : Hid (writeF (bl s) l = ([], 1)) := Lib.hid (by unfold writeF; simp only [hk, if_neg hc])
      generalize writeF (bl s) l = r at *
      rw [decide_eq_false hc] at KC
      clear h hl hk hs hc
      go_enter Try.func54, Try.ntmps54
      go_wp2_with (first
        | (go_at_call 51; refine (KK.out _).mono ?_; rintro e w1 ⟨v, rfl, hrow, ⟨p1, n1, c1, rfl⟩, hb⟩; have HRW := Lib.hid (hrow ks rfl); have HB1 := Lib.hid hb; clear hrow hb)
        | (go_at_call 99; refine (KC.out _ HB1.out).mono ?_; rintro e w2 ⟨rfl, hb⟩; have HB2 := Lib.hid (HB1.out.trans (hb.mono HB1.out.size)); clear hb))
      go_ret2
      rw [HR.out]
      exact ⟨rfl, HB2.out⟩
end Go.Proofs.Ytefmlbckbhlgdaa
namespace Go.Proofs.Ytefmlbckbhlgdaa
open Go.RowKit
/-- How the reading of an item as a field ends. -/
def FieldPost (r : Option Fd) (w : World) (e : Ending) (w' : World) : Prop :=
  ∃ (n : Nat) (b : List UInt8) (p : Option Addr) (m c : Nat) (is : Bool), e = .returned (.tuple #[.agg #[.int .u64 (n : Int), .string (mkS b), .slice p m c], .bool is]) ∧ Below w.heap.size w w' ∧
    ((r = none ∧ is = false) ∨ ∃ ks, r = some (.mk (n, b) ks) ∧ is = true ∧ RowT encFd (fun b => w.heap.size ≤ b) w' (.slice p m c) ks)
/-- How the reading of an item as fields ends. -/
def FieldsPost (r : Option (List Fd)) (w : World) (e : Ending) (w' : World) : Prop :=
  ∃ (p : Option Addr) (m c : Nat) (is : Bool), e = .returned (.tuple #[.slice p m c, .bool is]) ∧ Below w.heap.size w w' ∧
    ((r = none ∧ is = false) ∨ ∃ ks, r = some ks ∧ is = true ∧ RowT encFd (fun b => w.heap.size ≤ b) w' (.slice p m c) ks)
def FieldC (k : Kd) : Prop := ∀ (s : Sl) (x : It) (v : Value) (w : World), x.size ≤ 100000 → KindAt w k s → ItemIs w x v → Calls Try.prog 98 #[kV k.val s, v] w (FieldPost (fieldK k x) w)
def FieldsC (k : Kd) : Prop := ∀ (s : Sl) (x : It) (v : Value) (w : World), x.size ≤ 100000 → KindAt w k s → ItemIs w x v → Calls Try.prog 53 #[kV k.val s, v] w (FieldsPost (fieldsT k x) w)

set_option maxRecDepth 100000 in
set_option maxHeartbeats 4000000 in
theorem field_num (c : UInt8) (hc : c = 110) (ks : List Kd) (s : Sl) (x : It) (v : Value) (w : World) (hx : ItemIs w x v) :
    Calls Try.prog 98 #[kV c s, v] w (FieldPost (fieldK (.mk c ks) x) w) := by
  obtain ⟨l, b, xs⟩ := x
  obtain ⟨kv, rfl, hbz, hkids⟩ := itemIs_iff.1 hx
  obtain ⟨px, cx, rfl, x1s, x2s, -⟩ := hkids.parts
  simp only [itemV] at *
  have KV : ∀ W, Below w.heap.size w W → Calls Try.prog 145 #[.agg #[.bool l, .string (mkS b), .slice px xs.length cx]] W fun e w' => e = .returned (.tuple #[.int .u64 (It.mk l b xs).value.1, .int .i64 (It.mk l b xs).value.2]) ∧ Below W.heap.size W w' := fun W h => value_any (.mk l b xs) _ W (ItemIs.below h (Nat.le_refl _) _ _ hx)
  have HR : Hid (fieldK (.mk c ks) (.mk l b xs) = if (It.mk l b xs).value.2 = 0 then some (.mk ((It.mk l b xs).value.1, []) []) else none) := Lib.hid (by rw [fieldK, if_pos hc])
  generalize fieldK (.mk c ks) (.mk l b xs) = res at *
  generalize (It.mk l b xs).value = nv at *
  obtain ⟨n, ev⟩ := nv
  simp only at *
  replace KV := Lib.hid KV
  have q1 : ((c.toNat : Int) == 110) = true := by rw [hc]; rfl
  clear hc hx hkids
  obtain ⟨pk, nk, ck⟩ := s
  simp only [kV, slV] at *
  have R2 := Lib.hid (((RowAt.new w #[.int .u8 c.toNat, .slice pk nk ck] 111).alloc (.cells #[.bool l, .string (mkS b), .slice px xs.length cx] 98)).alloc (.cells #[.int .u64 0, .string ⟨#[]⟩, .slice none 0 0] 64))
  have R3 := Lib.hid ((RowAt.new' (w.alloc (.cells #[.int .u8 c.toNat, .slice pk nk ck] 111)) #[.bool l, .string (mkS b), .slice px xs.length cx] 98 (k := w.heap.size + 1) (by simp)).alloc (.cells #[.int .u64 0, .string ⟨#[]⟩, .slice none 0 0] 64))
  have R4 := Lib.hid (RowAt.new' ((w.alloc (.cells #[.int .u8 c.toNat, .slice pk nk ck] 111)).alloc (.cells #[.bool l, .string (mkS b), .slice px xs.length cx] 98)) #[.int .u64 0, .string ⟨#[]⟩, .slice none 0 0] 64 (k := w.heap.size + 1 + 1) (by simp))
  have HB := Lib.hid (bel3 w (.cells #[.int .u8 c.toNat, .slice pk nk ck] 111) (.cells #[.bool l, .string (mkS b), .slice px xs.length cx] 98) (.cells #[.int .u64 0, .string ⟨#[]⟩, .slice none 0 0] 64))
  by_cases he : ev = 0
  · have q2 : (ev == 0) = true := by simp [he]
    have HE := Lib.hid he
    clear he
    go_enter Try.func98, Try.ntmps98
    go_upto_region 1 with (fail)
    generalize ((w.alloc (.cells #[.int .u8 c.toNat, .slice pk nk ck] 111)).alloc (.cells #[.bool l, .string (mkS b), .slice px xs.length cx] 98)).alloc (.cells #[.int .u64 0, .string ⟨#[]⟩, .slice none 0 0] 64) = W at *
    obtain ⟨x0, x1, xf0, xf1⟩ := R2.out.c2
    obtain ⟨y0, y1, y2, yf0, yf1, yf2⟩ := R3.out.c3
    obtain ⟨z0, z1, z2, zf0, zf1, zf2⟩ := R4.out.c3
    go_wp2_with (go_at_call 145; refine (KV.out _ HB.out).mono ?_; rintro e w1 ⟨rfl, hb⟩; have HB1 := Lib.hid (HB.out.trans (hb.mono HB.out.size)); replace R4 := Lib.hid (R4.out.belowS hb); clear hb x0 x1 xf0 xf1 y0 y1 y2 yf0 yf1 yf2 z0 z1 z2 zf0 zf1 zf2; obtain ⟨z0, z1, z2, zf0, zf1, zf2⟩ := R4.out.c3)
    obtain ⟨r, bb⟩ := box3 R4.out HB1.out (Nat.le_trans (Nat.le_succ _) (Nat.le_succ _)) (.int .u64 (n : Int)) (.string ⟨#[]⟩) (.slice none 0 0)
    obtain ⟨e0, e1, e2, _⟩ := r.c3
    refine bodyPost_ret (v := .tuple #[.agg #[.int .u64 (n : Int), .string ⟨#[]⟩, .slice none 0 0], .bool true]) (by simp [results, Try.results98, go_sem, e0, e1, e2]) rfl ?_
    exact ⟨n, [], none, 0, 0, true, rfl, bb, .inr ⟨[], by rw [HR.out, if_pos HE.out], rfl, RowT.nil⟩⟩
  · have q2 : (ev == 0) = false := by simp [he]
    have HE := Lib.hid he
    clear he
    go_enter Try.func98, Try.ntmps98
    go_upto_region 1 with (fail)
    generalize ((w.alloc (.cells #[.int .u8 c.toNat, .slice pk nk ck] 111)).alloc (.cells #[.bool l, .string (mkS b), .slice px xs.length cx] 98)).alloc (.cells #[.int .u64 0, .string ⟨#[]⟩, .slice none 0 0] 64) = W at *
    obtain ⟨x0, x1, xf0, xf1⟩ := R2.out.c2
    obtain ⟨y0, y1, y2, yf0, yf1, yf2⟩ := R3.out.c3
    obtain ⟨z0, z1, z2, zf0, zf1, zf2⟩ := R4.out.c3
    go_wp2_with (go_at_call 145; refine (KV.out _ HB.out).mono ?_; rintro e w1 ⟨rfl, hb⟩; have HB1 := Lib.hid (HB.out.trans (hb.mono HB.out.size)); replace R4 := Lib.hid (R4.out.belowS hb); clear hb x0 x1 xf0 xf1 y0 y1 y2 yf0 yf1 yf2 z0 z1 z2 zf0 zf1 zf2; obtain ⟨z0, z1, z2, zf0, zf1, zf2⟩ := R4.out.c3)
    obtain ⟨r, bb⟩ := box3 R4.out HB1.out (Nat.le_trans (Nat.le_succ _) (Nat.le_succ _)) (.int .u64 (n : Int)) (.string ⟨#[]⟩) (.slice none 0 0)
    obtain ⟨e0, e1, e2, _⟩ := r.c3
    refine bodyPost_ret (v := .tuple #[.agg #[.int .u64 (n : Int), .string ⟨#[]⟩, .slice none 0 0], .bool false]) (by simp [results, Try.results98, go_sem, e0, e1, e2]) rfl ?_
    exact ⟨n, [], none, 0, 0, false, rfl, bb, .inl ⟨by rw [HR.out, if_neg HE.out], rfl⟩⟩
set_option maxRecDepth 100000 in
set_option maxHeartbeats 4000000 in
theorem field_bytes (c : UInt8) (h110 : c ≠ 110) (h42 : c ≠ 42) (h40 : c ≠ 40) (ks : List Kd) (s : Sl) (x : It) (v : Value) (w : World) (hx : ItemIs w x v) :
    Calls Try.prog 98 #[kV c s, v] w (FieldPost (fieldK (.mk c ks) x) w) := by
  obtain ⟨l, b, xs⟩ := x
  obtain ⟨kv, rfl, hbz, hkids⟩ := itemIs_iff.1 hx
  obtain ⟨px, cx, rfl, x1s, x2s, -⟩ := hkids.parts
  simp only [itemV] at *
  have HR : Hid (fieldK (.mk c ks) (.mk l b xs) = if l = true then none else some (.mk (0, b) [])) := Lib.hid (by rw [fieldK, if_neg h110, if_neg h42, if_neg h40])
  generalize fieldK (.mk c ks) (.mk l b xs) = res at *
  have q110 : ((c.toNat : Int) == 110) = false := c8_ne (n := 110) (by omega) h110
  have q42 : ((c.toNat : Int) == 42) = false := c8_ne (n := 42) (by omega) h42
  have q40 : ((c.toNat : Int) == 40) = false := c8_ne (n := 40) (by omega) h40
  clear h110 h42 h40 hx hkids
  obtain ⟨pk, nk, ck⟩ := s
  simp only [kV, slV] at *
  have R2 := Lib.hid (((RowAt.new w #[.int .u8 c.toNat, .slice pk nk ck] 111).alloc (.cells #[.bool l, .string (mkS b), .slice px xs.length cx] 98)).alloc (.cells #[.int .u64 0, .string ⟨#[]⟩, .slice none 0 0] 64))
  have R3 := Lib.hid ((RowAt.new' (w.alloc (.cells #[.int .u8 c.toNat, .slice pk nk ck] 111)) #[.bool l, .string (mkS b), .slice px xs.length cx] 98 (k := w.heap.size + 1) (by simp)).alloc (.cells #[.int .u64 0, .string ⟨#[]⟩, .slice none 0 0] 64))
  have R4 := Lib.hid (RowAt.new' ((w.alloc (.cells #[.int .u8 c.toNat, .slice pk nk ck] 111)).alloc (.cells #[.bool l, .string (mkS b), .slice px xs.length cx] 98)) #[.int .u64 0, .string ⟨#[]⟩, .slice none 0 0] 64 (k := w.heap.size + 1 + 1) (by simp))
  have HB := Lib.hid (bel3 w (.cells #[.int .u8 c.toNat, .slice pk nk ck] 111) (.cells #[.bool l, .string (mkS b), .slice px xs.length cx] 98) (.cells #[.int .u64 0, .string ⟨#[]⟩, .slice none 0 0] 64))
  go_enter Try.func98, Try.ntmps98
  go_upto_region 1 with (fail)
  generalize ((w.alloc (.cells #[.int .u8 c.toNat, .slice pk nk ck] 111)).alloc (.cells #[.bool l, .string (mkS b), .slice px xs.length cx] 98)).alloc (.cells #[.int .u64 0, .string ⟨#[]⟩, .slice none 0 0] 64) = W at *
  obtain ⟨x0, x1, xf0, xf1⟩ := R2.out.c2
  obtain ⟨y0, y1, y2, yf0, yf1, yf2⟩ := R3.out.c3
  obtain ⟨z0, z1, z2, zf0, zf1, zf2⟩ := R4.out.c3
  go_upto_region 9 with (fail)
  clear x0 x1 xf0 xf1 y0 y1 y2 yf0 yf1 yf2 z0 z1 z2 zf0 zf1 zf2
  have z := R4.out.lw3
  obtain ⟨z0, z1, z2, zf0, zf1, zf2⟩ := z
  have y := RowAt.lb3 (size3 W (w.heap.size + 1 + 1) (.int .u64 0) (.string (mkS b)) (.slice none 0 0)) R3.out (R3.out.other3 (k := w.heap.size + 1 + 1) (.int .u64 0) (.string (mkS b)) (.slice none 0 0) (by omega))
  obtain ⟨y0, y1, y2⟩ := y
  have HLT := R4.out.lt
  (refine region_once 6 (((W.setCell ⟨w.heap.size + 1 + 1, 0, none⟩ (.int .u64 0)).setCell ⟨w.heap.size + 1 + 1, 1, none⟩ (.string (mkS b))).setCell ⟨w.heap.size + 1 + 1, 2, none⟩ (.slice none 0 0)) mix ?hB ?hS ?_; case hB => kernel_rfl); (case hS => exact size3 _ _ _ _ _); (iterate 6 ((with_reducible refine once_step ?hkk ?_); (case hkk => rfl); intro K hK; go_simp; (first | (with_reducible refine hK _ ?_; clear hK K) | (apply Exists.intro; refine ⟨fun u => ?_, hK _ ?_⟩; (fail); clear hK K)))); (refine once_store rfl rfl (fun u => ?_) ?_; (go_simp; exact Later.set3 HLT _ _ _ u)); go_simp; (iterate 1 ((with_reducible refine once_step ?hkk ?_); (case hkk => rfl); intro K hK; go_simp; (first | (with_reducible refine hK _ ?_; clear hK K) | (apply Exists.intro; refine ⟨fun u => ?_, hK _ ?_⟩; (fail); clear hK K)))); (with_reducible refine once_nil ?_; intro u)
  clear y0 y1 y2 z0 z1 z2 zf0 zf1 zf2
  go_wp2
  obtain ⟨r, bb⟩ := box3 R4.out HB.out (Nat.le_trans (Nat.le_succ _) (Nat.le_succ _)) (.int .u64 0) (.string (mkS b)) (.slice none 0 0)
  obtain ⟨e0, e1, e2, _⟩ := (r.later u).c3
  refine bodyPost_ret (v := .tuple #[.agg #[.int .u64 0, .string (mkS b), .slice none 0 0], .bool (!l)]) (by simp [results, Try.results98, go_sem, e0, e1, e2]) rfl ?_
  refine ⟨0, b, none, 0, 0, !l, rfl, bb.trans (u.below.mono bb.size), ?_⟩
  rw [HR.out]
  cases l with
  | true => exact .inl ⟨rfl, rfl⟩
  | false => exact .inr ⟨[], rfl, rfl, RowT.nil⟩
set_option maxRecDepth 100000 in
set_option maxHeartbeats 4000000 in
theorem field_list (c : UInt8) (hc : c = 42 ∨ c = 40) (ks : List Kd) (HI : FieldsC (.mk c ks)) (s : Sl) (x : It) (v : Value) (w : World) (hsz : x.size ≤ 100000) (hK : KindAt w (.mk c ks) s) (hx : ItemIs w x v) :
    Calls Try.prog 98 #[kV c s, v] w (FieldPost (fieldK (.mk c ks) x) w) := by
  obtain ⟨l, b, xs⟩ := x
  obtain ⟨kv, rfl, hbz, hkids⟩ := itemIs_iff.1 hx
  obtain ⟨px, cx, rfl, x1s, x2s, -⟩ := hkids.parts
  simp only [itemV] at *
  have HR : Hid (fieldK (.mk c ks) (.mk l b xs) = (fieldsT (.mk c ks) (.mk l b xs)).map (.mk (0, []))) := Lib.hid (by
    rcases hc with rfl | rfl
    · rw [fieldK, fieldsT, if_neg (show ¬ (42 : UInt8) = 110 by decide), if_pos rfl, if_pos rfl]
      by_cases hl : l = true <;> simp [hl]
    · rw [fieldK, fieldsT, if_neg (show ¬ (40 : UInt8) = 110 by decide), if_neg (show ¬ (40 : UInt8) = 42 by decide), if_pos rfl, if_neg (show ¬ (40 : UInt8) = 42 by decide)]
      by_cases hl : l = true <;> simp [hl])
  generalize fieldK (.mk c ks) (.mk l b xs) = res at *
  have KF : ∀ W, Below w.heap.size w W → Calls Try.prog 53 #[kV c s, .agg #[.bool l, .string (mkS b), .slice px xs.length cx]] W (FieldsPost (fieldsT (.mk c ks) (.mk l b xs)) W) := fun W h => HI s (.mk l b xs) _ W hsz (RowT.below hK h (Nat.le_refl _)) (ItemIs.below h (Nat.le_refl _) _ _ hx)
  generalize fieldsT (.mk c ks) (.mk l b xs) = ft at *
  replace KF := Lib.hid KF
  have q110 : ((c.toNat : Int) == 110) = false := c8_ne (n := 110) (by omega) (by rcases hc with rfl | rfl <;> decide)
  clear hx hkids hsz hK HI
  obtain ⟨pk, nk, ck⟩ := s
  simp only [kV, slV] at *
  have HRW : ∀ (W1 : World) (B : Nat) (p : Option Addr) (m c' : Nat) (l' : List Fd), w.heap.size + 1 + 1 < B → RowT encFd (fun b => B ≤ b) W1 (.slice p m c') l' → RowT encFd (fun b => w.heap.size ≤ b) (((W1.setCell ⟨w.heap.size + 1 + 1, 0, none⟩ (.int .u64 0)).setCell ⟨w.heap.size + 1 + 1, 1, none⟩ (.string ⟨#[]⟩)).setCell ⟨w.heap.size + 1 + 1, 2, none⟩ (.slice p m c')) (.slice p m c') l' := fun W1 B p m c' l' hB h => h.keep (fun a v ha hc => by rw [World.cell?_setCell_other, World.cell?_setCell_other, World.cell?_setCell_other]; exact hc; all_goals (intro e; subst e; simp only at ha; omega)) (fun b hb => by omega)
  replace HRW := Lib.hid HRW
  have R2 := Lib.hid (((RowAt.new w #[.int .u8 c.toNat, .slice pk nk ck] 111).alloc (.cells #[.bool l, .string (mkS b), .slice px xs.length cx] 98)).alloc (.cells #[.int .u64 0, .string ⟨#[]⟩, .slice none 0 0] 64))
  have R3 := Lib.hid ((RowAt.new' (w.alloc (.cells #[.int .u8 c.toNat, .slice pk nk ck] 111)) #[.bool l, .string (mkS b), .slice px xs.length cx] 98 (k := w.heap.size + 1) (by simp)).alloc (.cells #[.int .u64 0, .string ⟨#[]⟩, .slice none 0 0] 64))
  have R4 := Lib.hid (RowAt.new' ((w.alloc (.cells #[.int .u8 c.toNat, .slice pk nk ck] 111)).alloc (.cells #[.bool l, .string (mkS b), .slice px xs.length cx] 98)) #[.int .u64 0, .string ⟨#[]⟩, .slice none 0 0] 64 (k := w.heap.size + 1 + 1) (by simp))
  have HB := Lib.hid (bel3 w (.cells #[.int .u8 c.toNat, .slice pk nk ck] 111) (.cells #[.bool l, .string (mkS b), .slice px xs.length cx] 98) (.cells #[.int .u64 0, .string ⟨#[]⟩, .slice none 0 0] 64))
  by_cases h40 : c = 40
  · have q40 : ((c.toNat : Int) == 40) = true := by rw [h40]; rfl
    clear h40 hc
    go_enter Try.func98, Try.ntmps98
    go_upto_region 1 with (fail)
    generalize ((w.alloc (.cells #[.int .u8 c.toNat, .slice pk nk ck] 111)).alloc (.cells #[.bool l, .string (mkS b), .slice px xs.length cx] 98)).alloc (.cells #[.int .u64 0, .string ⟨#[]⟩, .slice none 0 0] 64) = W at *
    obtain ⟨x0, x1, xf0, xf1⟩ := R2.out.c2
    obtain ⟨y0, y1, y2, yf0, yf1, yf2⟩ := R3.out.c3
    obtain ⟨z0, z1, z2, zf0, zf1, zf2⟩ := R4.out.c3
    go_wp2_with (go_at_call 53; refine (KF.out _ HB.out).mono ?_; rintro e w1 ⟨p, m, c', is, rfl, hb, hcase⟩; have HB1 := Lib.hid (HB.out.trans (hb.mono HB.out.size)); have HLT := Lib.hid R4.out.lt; replace R4 := Lib.hid (R4.out.belowS hb); have HC := Lib.hid hcase; clear hb hcase x0 x1 xf0 xf1 y0 y1 y2 yf0 yf1 yf2 z0 z1 z2 zf0 zf1 zf2; obtain ⟨z0, z1, z2, zf0, zf1, zf2⟩ := R4.out.c3)
    obtain ⟨r, bb⟩ := box3 R4.out HB1.out (Nat.le_trans (Nat.le_succ _) (Nat.le_succ _)) (.int .u64 0) (.string ⟨#[]⟩) (.slice p m c')
    obtain ⟨e0, e1, e2, _⟩ := r.c3
    refine bodyPost_ret (v := .tuple #[.agg #[.int .u64 0, .string ⟨#[]⟩, .slice p m c'], .bool is]) (by simp [results, Try.results98, go_sem, e0, e1, e2]) rfl ?_

    refine ⟨0, [], p, m, c', is, rfl, bb, ?_⟩
    rcases HC.out with ⟨h1, h2⟩ | ⟨l', h1, h2, h3⟩
    · exact .inl ⟨by rw [HR.out, h1]; rfl, h2⟩
    · exact .inr ⟨l', by rw [HR.out, h1]; rfl, h2, HRW.out _ _ _ _ _ _ HLT.out h3⟩
  · have q40 : ((c.toNat : Int) == 40) = false := c8_ne (n := 40) (by omega) h40
    have q42 : ((c.toNat : Int) == 42) = true := by rw [hc.resolve_right h40]; rfl
    clear h40 hc
    go_enter Try.func98, Try.ntmps98
    go_upto_region 1 with (fail)
    generalize ((w.alloc (.cells #[.int .u8 c.toNat, .slice pk nk ck] 111)).alloc (.cells #[.bool l, .string (mkS b), .slice px xs.length cx] 98)).alloc (.cells #[.int .u64 0, .string ⟨#[]⟩, .slice none 0 0] 64) = W at *
    obtain ⟨x0, x1, xf0, xf1⟩ := R2.out.c2
    obtain ⟨y0, y1, y2, yf0, yf1, yf2⟩ := R3.out.c3
    obtain ⟨z0, z1, z2, zf0, zf1, zf2⟩ := R4.out.c3
    go_wp2_with (go_at_call 53; refine (KF.out _ HB.out).mono ?_; rintro e w1 ⟨p, m, c', is, rfl, hb, hcase⟩; have HB1 := Lib.hid (HB.out.trans (hb.mono HB.out.size)); have HLT := Lib.hid R4.out.lt; replace R4 := Lib.hid (R4.out.belowS hb); have HC := Lib.hid hcase; clear hb hcase x0 x1 xf0 xf1 y0 y1 y2 yf0 yf1 yf2 z0 z1 z2 zf0 zf1 zf2; obtain ⟨z0, z1, z2, zf0, zf1, zf2⟩ := R4.out.c3)
    obtain ⟨r, bb⟩ := box3 R4.out HB1.out (Nat.le_trans (Nat.le_succ _) (Nat.le_succ _)) (.int .u64 0) (.string ⟨#[]⟩) (.slice p m c')
    obtain ⟨e0, e1, e2, _⟩ := r.c3
    refine bodyPost_ret (v := .tuple #[.agg #[.int .u64 0, .string ⟨#[]⟩, .slice p m c'], .bool is]) (by simp [results, Try.results98, go_sem, e0, e1, e2]) rfl ?_

    refine ⟨0, [], p, m, c', is, rfl, bb, ?_⟩
    rcases HC.out with ⟨h1, h2⟩ | ⟨l', h1, h2, h3⟩
    · exact .inl ⟨by rw [HR.out, h1]; rfl, h2⟩
    · exact .inr ⟨l', by rw [HR.out, h1]; rfl, h2, HRW.out _ _ _ _ _ _ HLT.out h3⟩

theorem field_of (c : UInt8) (ks : List Kd) (HI : FieldsC (.mk c ks)) : FieldC (.mk c ks) := by
  intro s x v w hsz hK hx
  by_cases h110 : c = 110
  · exact field_num c h110 ks s x v w hx
  · by_cases h42 : c = 42
    · exact field_list c (.inl h42) ks HI s x v w hsz hK hx
    · by_cases h40 : c = 40
      · exact field_list c (.inr h40) ks HI s x v w hsz hK hx
      · exact field_bytes c h110 h42 h40 ks s x v w hx
end Go.Proofs.Ytefmlbckbhlgdaa

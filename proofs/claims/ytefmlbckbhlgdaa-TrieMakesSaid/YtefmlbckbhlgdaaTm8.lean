/- Tries in memory: nodes and pairs that are alike. Tries in memory: the reference's Like and Same; slices.Equal; the trie's same. Tries in memory: slices.Equal of nodes, the reference's Same of pairs, the trie's same. The trie: a fresh node; a node laid in the arena; keys cut; what begins alike handed on. The trie: keys cut; parts of keys. The trie: a node laid in the arena. -/
import Derived.ChangeKeysEq
import Derived.Test.YtefmlbckbhlgdaaTm7
namespace Go.Proofs.Ytefmlbckbhlgdaa
open Go.RowKit Go.Shelf
set_option maxRecDepth 100000
def ndEq (a b : Nd) : Bool := (a.kind == b.kind) && (decide (a.part = b.part) && (decide (a.value = b.value) && (List.range 16).all fun i => a.kids.getD i 0 == b.kids.getD i 0))
theorem ndEq_iff {a b : Nd} (ha : a.kids.length = 16) (hb : b.kids.length = 16) : ndEq a b = true ↔ a = b := by
  obtain ⟨k, p, v, ks⟩ := a
  obtain ⟨k', p', v', ks'⟩ := b
  simp only at ha hb
  unfold ndEq
  simp only [Bool.and_eq_true, beq_iff_eq, decide_eq_true_eq, List.all_eq_true, List.mem_range, Nd.mk.injEq]
  refine and_congr Iff.rfl (and_congr Iff.rfl (and_congr Iff.rfl ⟨fun h => ?_, fun h => by subst h; exact fun _ _ => rfl⟩))
  apply List.ext_getElem?
  intro i
  by_cases hi : i < 16
  · have := h i hi
    rw [List.getD_eq_getElem?_getD, List.getD_eq_getElem?_getD] at this
    rw [List.getElem?_eq_getElem (by omega), List.getElem?_eq_getElem (by omega)] at this ⊢
    simpa using this
  · rw [List.getElem?_eq_none (by omega), List.getElem?_eq_none (by omega)]

theorem eqItems_int (d : Nat) (xs ys : Array Value) (f g : Nat → Int) (w : World) : ∀ is : List Nat, (∀ i ∈ is, xs[i]? = some (.int .i64 (f i)) ∧ ys[i]? = some (.int .i64 (g i))) →
    (Op.eqItems (d + 1) 3 1 xs ys is).run Try.prog w = .ok (is.all fun i => f i == g i) w
  | [], _ => rfl
  | i :: is, h => by
    obtain ⟨h1, h2⟩ := h i List.mem_cons_self
    have hg : Try.prog.underlying 3 = some (.int .i64) := by kernel_rfl
    have hp : ∀ (xs : Array Value) (v : Value) (w : World), xs[i]? = some v → (part 3 xs i).run Try.prog w = .ok v w := fun xs v w h => by simp [part, go_sem, h]
    have ih := eqItems_int d xs ys f g w is fun j hj => h j (List.mem_cons_of_mem _ hj)
    simp only [Op.eqItems, Nat.mul_one, Sem.run_bind, hp _ _ _ h1, hp _ _ _ h2, Result.andThen_ok, run_equalIn_int w d _ _ _ _ _ hg, List.all_cons]
    cases (f i == g i)
    · simp
    · simp [ih]
theorem ndc_kidAt (n : Nd) (i : Nat) (hi : i < 16) : (ndc n)[3 + i]? = some (kidV n i) := by
  have : i = 0 ∨ i = 1 ∨ i = 2 ∨ i = 3 ∨ i = 4 ∨ i = 5 ∨ i = 6 ∨ i = 7 ∨ i = 8 ∨ i = 9 ∨ i = 10 ∨ i = 11 ∨ i = 12 ∨ i = 13 ∨ i = 14 ∨ i = 15 := by omega
  rcases this with rfl | rfl | rfl | rfl | rfl | rfl | rfl | rfl | rfl | rfl | rfl | rfl | rfl | rfl | rfl | rfl <;> rfl
theorem ndc_kidE (n : Nd) (i : Nat) (hi : i < 16) : ((ndc n).extract 3 (3 + 16))[i]? = some (.int .i64 (n.kids.getD i 0)) := by
  rw [Array.getElem?_extract, if_pos (by rw [ndc_size]; omega), ndc_kidAt n i hi]
  rfl
theorem eqNd_run (a b : Nd) (w : World) : (Op.equalIn 10000 88 (.agg (ndc a)) (.agg (ndc b))).run Try.prog w = .ok (ndEq a b) w := by
  rw [run_equalIn_struct w 9999 88 _ _ (by kernel_rfl) (by kernel_rfl)]
  have hf : (Try.prog.fieldsOf 88).toList.map (fun f => (f.name, f.type, f.offset)) = [("Kind", 3, 0), ("Part", 9, 1), ("Value", 9, 2), ("Kids", 86, 3)] := by kernel_rfl
  generalize (Try.prog.fieldsOf 88).toList = fl at hf ⊢
  have hl3 : fl.length = 4 := by have := congrArg List.length hf; simpa using this
  obtain ⟨f0, f1, f2, f3, rfl⟩ : ∃ f0 f1 f2 f3, fl = [f0, f1, f2, f3] := by
    match fl, hl3 with
    | [a, b, c, d], _ => exact ⟨a, b, c, d, rfl⟩
  simp only [List.map_cons, List.map_nil, List.cons.injEq, Prod.mk.injEq, and_true] at hf
  obtain ⟨e0, e1, e2, e3⟩ := hf
  have hgi : Try.prog.underlying 3 = some (.int .i64) := by kernel_rfl
  have hgs : Try.prog.underlying 9 = some .string := by kernel_rfl
  have hga : Try.prog.underlying 86 = some (.array 16 3) := by kernel_rfl
  have hci : Try.prog.cellsOf 3 = 1 := by kernel_rfl
  have hii : (Try.prog.info? 3).map (fun i => i.size) = some 1 := by kernel_rfl
  obtain ⟨i0, hi0, _⟩ := Option.map_eq_some_iff.1 hii
  have pI : ∀ (xs : Array Value) (k : Nat) (v : Value) (w : World), xs[k]? = some v → (part 3 xs k).run Try.prog w = .ok v w := fun xs k v w h => by simp [part, go_sem, h]
  have pS : ∀ (xs : Array Value) (k : Nat) (v : Value) (w : World), xs[k]? = some v → (part 9 xs k).run Try.prog w = .ok v w := fun xs k v w h => by simp [part, go_sem, h]
  have pK : ∀ (xs : Array Value) (k : Nat) (w : World), (part 86 xs k).run Try.prog w = .ok (.agg (xs.extract k (k + 16))) w := fun xs k w => by
    have hc : Try.prog.cellsOf 86 = 16 := by kernel_rfl
    have hi : (Try.prog.info? 86).map (fun i => i.size) = some 16 := by kernel_rfl
    obtain ⟨i, hi, _⟩ := Option.map_eq_some_iff.1 hi
    have hs : (sizeOf 86).run Try.prog w = .ok 16 w := by rw [run_sizeOf w hi, hc]
    simp [part, go_sem]
  have hI : ∀ (x y : Int) w, (Op.equalIn 9999 3 (.int .i64 x) (.int .i64 y)).run Try.prog w = .ok (x == y) w := fun x y w => run_equalIn_int w 9998 _ _ _ _ _ hgi
  have hS : ∀ (x y : List UInt8) w, (Op.equalIn 9999 9 (.string (mkS x)) (.string (mkS y))).run Try.prog w = .ok (decide (x = y)) w := fun x y w => by rw [run_equalIn_string w 9998 _ _ _ hgs, mkS_beq]
  have hK : ∀ w, (Op.equalIn 9999 86 (.agg ((ndc a).extract 3 (3 + 16))) (.agg ((ndc b).extract 3 (3 + 16)))).run Try.prog w = .ok ((List.range 16).all fun i => a.kids.getD i 0 == b.kids.getD i 0) w := fun w => by
    rw [run_equalIn_array w 9998 (n := 16) (e := 3) _ _ hga hi0, hci]
    refine eqItems_int 9997 _ _ (fun i => a.kids.getD i 0) (fun i => b.kids.getD i 0) w _ fun i hi => ?_
    have hi := List.mem_range.1 hi
    exact ⟨ndc_kidE a i hi, ndc_kidE b i hi⟩
  unfold ndEq
  simp only [Op.eqFields, e0.1, e1.1, e2.1, e3.1, e0.2.1, e1.2.1, e2.2.1, e3.2.1, e0.2.2, e1.2.2, e2.2.2, e3.2.2]
  rw [if_pos (by decide)]
  simp only [Sem.run_bind, pI (ndc a) 0 (.int .i64 a.kind) _ rfl, pI (ndc b) 0 (.int .i64 b.kind) _ rfl, Result.andThen_ok]
  rw [hI]
  simp only [Result.andThen_ok]
  cases (a.kind == b.kind)
  · simp
  simp only [Bool.not_true, Bool.false_eq_true, if_false, Bool.true_and]
  rw [if_pos (by decide)]
  simp only [Sem.run_bind, pS (ndc a) 1 (.string (mkS a.part)) _ rfl, pS (ndc b) 1 (.string (mkS b.part)) _ rfl, Result.andThen_ok]
  rw [hS]
  simp only [Result.andThen_ok]
  cases decide (a.part = b.part)
  · simp
  simp only [Bool.not_true, Bool.false_eq_true, if_false, Bool.true_and]
  rw [if_pos (by decide)]
  simp only [Sem.run_bind, pS (ndc a) 2 (.string (mkS a.value)) _ rfl, pS (ndc b) 2 (.string (mkS b.value)) _ rfl, Result.andThen_ok]
  rw [hS]
  simp only [Result.andThen_ok]
  cases decide (a.value = b.value)
  · simp
  simp only [Bool.not_true, Bool.false_eq_true, if_false, Bool.true_and]
  rw [if_pos (by decide)]
  simp only [Sem.run_bind, pK, Result.andThen_ok]
  rw [hK]
  simp only [Result.andThen_ok]
  cases (List.range 16).all fun i => a.kids.getD i 0 == b.kids.getD i 0 <;> simp
theorem eqPr_run (a b : Pr) (w : World) : (Op.equalIn 10000 41 (.agg #[.string (mkS a.1), .string (mkS a.2)]) (.agg #[.string (mkS b.1), .string (mkS b.2)])).run Try.prog w = .ok (decide (a = b)) w := by
  rw [run_equalIn_struct w 9999 41 _ _ (by kernel_rfl) (by kernel_rfl)]
  have hf : (Try.prog.fieldsOf 41).toList.map (fun f => (f.name, f.type, f.offset)) = [("Key", 9, 0), ("Value", 9, 1)] := by kernel_rfl
  generalize (Try.prog.fieldsOf 41).toList = fl at hf ⊢
  have hl3 : fl.length = 2 := by have := congrArg List.length hf; simpa using this
  obtain ⟨f0, f1, rfl⟩ : ∃ f0 f1, fl = [f0, f1] := by
    match fl, hl3 with
    | [a, b], _ => exact ⟨a, b, rfl⟩
  simp only [List.map_cons, List.map_nil, List.cons.injEq, Prod.mk.injEq, and_true] at hf
  obtain ⟨e0, e1⟩ := hf
  have hgs : Try.prog.underlying 9 = some .string := by kernel_rfl
  have pS : ∀ (xs : Array Value) (k : Nat) (v : Value) (w : World), xs[k]? = some v → (part 9 xs k).run Try.prog w = .ok v w := fun xs k v w h => by simp [part, go_sem, h]
  have hS : ∀ (x y : List UInt8) w, (Op.equalIn 9999 9 (.string (mkS x)) (.string (mkS y))).run Try.prog w = .ok (decide (x = y)) w := fun x y w => by rw [run_equalIn_string w 9998 _ _ _ hgs, mkS_beq]
  have hR : decide (a = b) = (decide (a.1 = b.1) && decide (a.2 = b.2)) := by
    rw [Bool.eq_iff_iff]
    simp only [decide_eq_true_eq, Bool.and_eq_true]
    exact Prod.ext_iff
  rw [hR]
  simp only [Op.eqFields, e0.1, e1.1, e0.2.1, e1.2.1, e0.2.2, e1.2.2]
  rw [if_pos (by decide)]
  have v1 := pS #[.string (mkS a.1), .string (mkS a.2)] 0 (.string (mkS a.1)) w rfl
  have v2 := pS #[.string (mkS b.1), .string (mkS b.2)] 0 (.string (mkS b.1)) w rfl
  simp only [Sem.run_bind, v1, v2, Result.andThen_ok]
  rw [hS]
  simp only [Result.andThen_ok]
  cases decide (a.1 = b.1)
  · simp
  simp only [Bool.not_true, Bool.false_eq_true, if_false, Bool.true_and]
  rw [if_pos (by decide)]
  have v1 := pS #[.string (mkS a.1), .string (mkS a.2)] 1 (.string (mkS a.2)) w rfl
  have v2 := pS #[.string (mkS b.1), .string (mkS b.2)] 1 (.string (mkS b.2)) w rfl
  simp only [Sem.run_bind, v1, v2, Result.andThen_ok]
  rw [hS]
  simp only [Result.andThen_ok]
  cases decide (a.2 = b.2) <;> simp
end Go.Proofs.Ytefmlbckbhlgdaa
namespace Go.Proofs.Ytefmlbckbhlgdaa
open Go.RowKit Go.Shelf
set_option maxRecDepth 100000
def rowEq {α : Type} (f : α → α → Bool) : List α → List α → Bool
  | [], [] => true
  | x :: l, y :: m => f x y && rowEq f l m
  | _, _ => false
theorem rowEq_len {α : Type} {f : α → α → Bool} : ∀ {l m : List α}, l.length ≠ m.length → rowEq f l m = false
  | [], [], h => absurd rfl h
  | [], _ :: _, _ => rfl
  | _ :: _, [], _ => rfl
  | x :: l, y :: m, h => by rw [rowEq, rowEq_len (by simpa using h), Bool.and_false]
theorem rowEq_iff {α : Type} {f : α → α → Bool} : ∀ {l m : List α}, (∀ x ∈ l, ∀ y ∈ m, f x y = true ↔ x = y) → (rowEq f l m = true ↔ l = m)
  | [], [], _ => by simp [rowEq]
  | [], _ :: _, _ => by simp [rowEq]
  | _ :: _, [], _ => by simp [rowEq]
  | x :: l, y :: m, h => by
    rw [rowEq, Bool.and_eq_true, h x List.mem_cons_self y List.mem_cons_self, rowEq_iff fun a ha b hb => h a (List.mem_cons_of_mem _ ha) b (List.mem_cons_of_mem _ hb), List.cons.injEq]
theorem rowEq_drop {α : Type} {f : α → α → Bool} {l m : List α} {i : Nat} {x y : α} (hx : l[i]? = some x) (hy : m[i]? = some y) : rowEq f (l.drop i) (m.drop i) = (f x y && rowEq f (l.drop (i + 1)) (m.drop (i + 1))) := by
  obtain ⟨h1, e1⟩ := List.getElem?_eq_some_iff.1 hx
  obtain ⟨h2, e2⟩ := List.getElem?_eq_some_iff.1 hy
  rw [List.drop_eq_getElem_cons h1, List.drop_eq_getElem_cons h2, e1, e2, rowEq]

theorem xr_load_nd {ops : Array Oper} {C : World → Prop} {Q : Act → Prop} {a : Act} {i : Nat} {is : List Nat} (o : Oper) (hi : ops[i]? = some o) (hgd : o.guard = none) (x : Operand) (ho : o.op = .load 88 x)
    (ad : Addr) (n : Nd) (hx : a.eval x = .pointer (some ad)) (hn : ∀ u : InC C, NdAt u.w ad n) (h : wpXR Try.prog ops C Q is (a.put o.dst (.agg (ndc n)))) : wpXR Try.prog ops C Q (i :: is) a := by
  obtain ⟨fs, hu⟩ := und_nd
  refine xr_step ⟨o, hi, fun K hK => ?_⟩
  unfold Region.wanted
  rw [hgd]
  simp only [if_true]
  refine ⟨.agg (ndc n), fun u => ?_, hK _ h⟩
  unfold Oper.quietAt execOp
  simp only [ho, hx, Instr.loadAt, Instr.sureAddr, Sem.run_bind, Sem.run_pure, Result.andThen_ok, run_loadVar_at u.w _ ad (ndc n) _ (hn u) hu rfl (size_nd n)]
  exact ⟨rfl, rfl⟩

def likeT (la : List Nd) (ra : Int) (lb : List Nd) (rb : Int) : Bool := (ra == rb) && rowEq ndEq la lb

theorem bel2T (w : World) (A B : Obj) : Below w.heap.size w ((w.alloc A).alloc B) := ((Below.refl _ _).alloc (Nat.le_refl _) _).alloc (by simp) _
set_option maxHeartbeats 4000000 in
theorem rlike_any (la lb : List Nd) (ra rb : Int) (sa sb : Value) (w : World) (ha : RN w sa la) (hb : RN w sb lb) :
    Calls Try.prog 17 #[.agg #[sa, .int .i64 ra], .agg #[sb, .int .i64 rb]] w fun e w' => e = .returned (.bool (likeT la ra lb rb)) ∧ Below w.heap.size w w' := by
  obtain ⟨pa, ca, rfl, a1, a2⟩ := RowE.shape encN ha
  obtain ⟨pb, cb, rfl, b1, b2⟩ := RowE.shape encN hb
  have H1 := Lib.hid ha
  have H2 := Lib.hid hb
  clear ha hb
  unfold maxLen at a2 b2
  have HL := Lib.hid (show likeT la ra lb rb = ((ra == rb) && rowEq ndEq la lb) from rfl)
  generalize likeT la ra lb rb = R at *
  generalize hna : la.length = na at *
  generalize hnb : lb.length = nb at *
  replace hna := Lib.hid hna
  replace hnb := Lib.hid hnb
  have R1 := Lib.hid ((RowAt.new w #[.slice pa na ca, .int .i64 ra] 37).alloc (.cells #[.slice pb nb cb, .int .i64 rb] 37))
  have R2 := Lib.hid (RowAt.new' (w.alloc (.cells #[.slice pa na ca, .int .i64 ra] 37)) #[.slice pb nb cb, .int .i64 rb] 37 (k := w.heap.size + 1) (by simp))
  have HB := Lib.hid (bel2T w (.cells #[.slice pa na ca, .int .i64 ra] 37) (.cells #[.slice pb nb cb, .int .i64 rb] 37))
  obtain ⟨x0, x1, xf0, xf1⟩ := R1.out.c2
  obtain ⟨y0, y1, yf0, yf1⟩ := R2.out.c2
  by_cases e : ra = rb
  · have q : (ra != rb) = false := by simp [e]
    have q' : (ra == rb) = true := by simp [e]
    clear e
    rw [q', Bool.true_and] at HL
    clear q'
    by_cases l1 : na = nb
    · subst l1
      have HD : Hid (rowEq ndEq (la.drop 0) (lb.drop 0) = R) := Lib.hid HL.out.symm
      clear HL
      go_enter Try.func17, Try.ntmps17
      go_upto_region 4 with (fail)
      clear x0 x1 xf0 xf1 y0 y1 yf0 yf1 q
      generalize (w.alloc (.cells #[.slice pa na ca, .int .i64 ra] 37)).alloc (.cells #[.slice pb na cb, .int .i64 rb] 37) = W0 at *
      go_loopw [23] (fun s wr => ∃ i : Nat, i ≤ na ∧ s = .int .i64 i ∧ Hid (rowEq ndEq (la.drop i) (lb.drop i) = R) ∧ Hid (Below W0.heap.size W0 wr)) (fun s _ => na - (intOf s).toNat)
      case atStart => exact ⟨0, Nat.zero_le _, rfl, HD, Lib.hid (Below.refl _ _)⟩
      case round =>
        clear HD
        obtain ⟨i, hi, rfl, hd, hbw⟩ := hrel
        have HD := Lib.hid hd.out
        have HBW := Lib.hid hbw.out
        clear hd hbw
        by_cases hlt : i < na
        · obtain ⟨x, hx⟩ : ∃ x, la[i]? = some x := ⟨_, List.getElem?_eq_getElem (by rw [hna.out]; exact hlt)⟩
          obtain ⟨y, hy⟩ : ∃ y, lb[i]? = some y := ⟨_, List.getElem?_eq_getElem (by rw [hnb.out]; exact hlt)⟩
          have hdr := HD.out
          rw [rowEq_drop hx hy] at hdr
          obtain ⟨a, rfl, n1⟩ := NdAt.ofRowE H1.out hx
          obtain ⟨b, rfl, n2⟩ := NdAt.ofRowE H2.out hy
          replace n1 := Lib.hid (fun u : InC (LaterC wr.drew) => (n1.below (HB.out.trans ((HBW.out.drew.trans (u.below.mono HBW.out.drew.size)).mono HB.out.size)) (Nat.le_refl _)))
          replace n2 := Lib.hid (fun u : InC (LaterC wr.drew) => (n2.below (HB.out.trans ((HBW.out.drew.trans (u.below.mono HBW.out.drew.size)).mono HB.out.size)) (Nat.le_refl _)))
          have p1 := (R1.out.belowS HBW.out).drew.ic2.1
          have p2 := (R2.out.belowS HBW.out).drew.ic2.1
          have hq := fun w => eqNd_run x y w
          clear hx hy HD
          cases he : ndEq x y
          · rw [he] at hq hdr
            have hr := Lib.hid (show R = false by rw [← hdr]; rfl)
            clear hdr he
            go_upto_region 6 with (fail)
            (refine region_order [0, 1, 2, 3, 4, 5, 6, 7, 8, 9] [] 10 (LaterC wr.drew) mix ?hB ?hC ?_; case hB => kernel_rfl); (case hC => exact Below.refl _ _)
            iterate 4 ((with_reducible refine xr_step ?_); (refine ⟨_, rfl, ?_⟩); intro K hK; go_simp; (with_reducible refine hK _ ?_); clear hK K)
            refine xr_load_nd _ rfl rfl _ rfl _ x rfl n1.out ?_
            iterate 4 ((with_reducible refine xr_step ?_); (refine ⟨_, rfl, ?_⟩); intro K hK; go_simp; (with_reducible refine hK _ ?_); clear hK K)
            refine xr_load_nd _ rfl rfl _ rfl _ y rfl n2.out ?_
            with_reducible refine xr_nil ?_
            with_reducible refine xe_nil ?_
            simp only [List.drop_succ_cons, List.drop_zero]
            clear p1 p2
            go_wp2
            go_ret
            rw [hr.out]
            exact ⟨rfl, HB.out.trans (HBW.out.drew.mono HB.out.size)⟩
          · rw [he] at hq hdr
            have hd := Lib.hid (show rowEq ndEq (la.drop (i + 1)) (lb.drop (i + 1)) = R by rw [← hdr]; rfl)
            clear hdr he
            go_upto_region 6 with (fail)
            (refine region_order [0, 1, 2, 3, 4, 5, 6, 7, 8, 9] [] 10 (LaterC wr.drew) mix ?hB ?hC ?_; case hB => kernel_rfl); (case hC => exact Below.refl _ _)
            iterate 4 ((with_reducible refine xr_step ?_); (refine ⟨_, rfl, ?_⟩); intro K hK; go_simp; (with_reducible refine hK _ ?_); clear hK K)
            refine xr_load_nd _ rfl rfl _ rfl _ x rfl n1.out ?_
            iterate 4 ((with_reducible refine xr_step ?_); (refine ⟨_, rfl, ?_⟩); intro K hK; go_simp; (with_reducible refine hK _ ?_); clear hK K)
            refine xr_load_nd _ rfl rfl _ rfl _ y rfl n2.out ?_
            with_reducible refine xr_nil ?_
            with_reducible refine xe_nil ?_
            simp only [List.drop_succ_cons, List.drop_zero]
            clear p1 p2
            go_wp2
            exact ⟨⟨i + 1, by omega, by simp, hd, Lib.hid HBW.out.drew⟩, by simp [intOf]; omega⟩
        · have hd := HD.out
          rw [List.drop_eq_nil_of_le (by rw [hna.out]; omega), List.drop_eq_nil_of_le (by rw [hnb.out]; omega)] at hd
          have hr := Lib.hid (show R = true from hd.symm)
          clear hd
          go_wp2
          go_ret
          rw [hr.out]
          exact ⟨rfl, HB.out.trans (HBW.out.mono HB.out.size)⟩
    · have hr := Lib.hid (show R = false by rw [HL.out]; exact rowEq_len (by rw [hna.out, hnb.out]; exact l1))
      have q2 : ((na : Int) != (nb : Int)) = true := bne_iff_ne.2 (by omega)
      clear HL
      go_enter Try.func17, Try.ntmps17
      go_wp2
      go_ret
      rw [hr.out]
      exact ⟨rfl, HB.out⟩
  · have q : (ra != rb) = true := bne_iff_ne.2 e
    have q' : (ra == rb) = false := by simp [e]
    rw [q', Bool.false_and] at HL
    clear q' e
    go_enter Try.func17, Try.ntmps17
    go_wp2
    go_ret
    rw [HL.out]
    exact ⟨rfl, HB.out⟩
end Go.Proofs.Ytefmlbckbhlgdaa
namespace Go.Proofs.Ytefmlbckbhlgdaa
open Go.RowKit Go.Shelf
set_option maxRecDepth 100000
set_option maxHeartbeats 4000000 in
theorem equalN_any (la lb : List Nd) (sa sb : Value) (w : World) (ha : RN w sa la) (hb : RN w sb lb) :
    Calls Try.prog 123 #[sa, sb] w fun e w' => e = .returned (.bool (rowEq ndEq la lb)) ∧ Below w.heap.size w w' := by
  obtain ⟨pa, ca, rfl, a1, a2⟩ := RowE.shape encN ha
  obtain ⟨pb, cb, rfl, b1, b2⟩ := RowE.shape encN hb
  have H1 := Lib.hid ha
  have H2 := Lib.hid hb
  clear ha hb
  unfold maxLen at a2 b2
  have HL := Lib.hid (@rfl _ (rowEq ndEq la lb))
  generalize hR : rowEq ndEq la lb = R
  rw [hR] at HL
  generalize hna : la.length = na at *
  generalize hnb : lb.length = nb at *
  replace hna := Lib.hid hna
  replace hnb := Lib.hid hnb
  replace hR := Lib.hid hR
  clear HL
  by_cases l1 : na = nb
  · subst l1
    have HD : Hid (rowEq ndEq (la.drop 0) (lb.drop 0) = R) := Lib.hid hR.out
    clear hR
    go_enter Try.func123, Try.ntmps123
    go_upto_region 4 with (fail)
    go_loopw [13] (fun s wr => ∃ i : Nat, i ≤ na ∧ s = .int .i64 i ∧ Hid (rowEq ndEq (la.drop i) (lb.drop i) = R) ∧ Hid (Below w.heap.size w wr)) (fun s _ => na - (intOf s).toNat)
    case atStart => exact ⟨0, Nat.zero_le _, rfl, HD, Lib.hid (Below.refl _ _)⟩
    case round =>
      clear HD
      obtain ⟨i, hi, rfl, hd, hbw⟩ := hrel
      have HD := Lib.hid hd.out
      have HBW := Lib.hid hbw.out
      clear hd hbw
      by_cases hlt : i < na
      · obtain ⟨x, hx⟩ : ∃ x, la[i]? = some x := ⟨_, List.getElem?_eq_getElem (by rw [hna.out]; exact hlt)⟩
        obtain ⟨y, hy⟩ : ∃ y, lb[i]? = some y := ⟨_, List.getElem?_eq_getElem (by rw [hnb.out]; exact hlt)⟩
        have hdr := HD.out
        rw [rowEq_drop hx hy] at hdr
        obtain ⟨a, rfl, n1⟩ := NdAt.ofRowE H1.out hx
        obtain ⟨b, rfl, n2⟩ := NdAt.ofRowE H2.out hy
        replace n1 := Lib.hid (fun u : InC (LaterC wr.drew) => (n1.below (HBW.out.drew.trans (u.below.mono HBW.out.drew.size)) (Nat.le_refl _)))
        replace n2 := Lib.hid (fun u : InC (LaterC wr.drew) => (n2.below (HBW.out.drew.trans (u.below.mono HBW.out.drew.size)) (Nat.le_refl _)))
        have hq := fun w => eqNd_run x y w
        clear hx hy HD
        cases he : ndEq x y
        · rw [he] at hq hdr
          have hr := Lib.hid (show R = false by rw [← hdr]; rfl)
          clear hdr he
          go_upto_region 6 with (fail)
          (refine region_order [0, 1, 2, 3, 4, 5, 6, 7] [] 8 (LaterC wr.drew) mix ?hB ?hC ?_; case hB => kernel_rfl); (case hC => exact Below.refl _ _)
          iterate 3 ((with_reducible refine xr_step ?_); (refine ⟨_, rfl, ?_⟩); intro K hK; go_simp; (with_reducible refine hK _ ?_); clear hK K)
          refine xr_load_nd _ rfl rfl _ rfl _ x rfl n1.out ?_
          iterate 3 ((with_reducible refine xr_step ?_); (refine ⟨_, rfl, ?_⟩); intro K hK; go_simp; (with_reducible refine hK _ ?_); clear hK K)
          refine xr_load_nd _ rfl rfl _ rfl _ y rfl n2.out ?_
          with_reducible refine xr_nil ?_
          with_reducible refine xe_nil ?_
          simp only [List.drop_succ_cons, List.drop_zero]
          go_wp2
          go_ret
          rw [hr.out]
          exact ⟨rfl, HBW.out.drew⟩
        · rw [he] at hq hdr
          have hd := Lib.hid (show rowEq ndEq (la.drop (i + 1)) (lb.drop (i + 1)) = R by rw [← hdr]; rfl)
          clear hdr he
          go_upto_region 6 with (fail)
          (refine region_order [0, 1, 2, 3, 4, 5, 6, 7] [] 8 (LaterC wr.drew) mix ?hB ?hC ?_; case hB => kernel_rfl); (case hC => exact Below.refl _ _)
          iterate 3 ((with_reducible refine xr_step ?_); (refine ⟨_, rfl, ?_⟩); intro K hK; go_simp; (with_reducible refine hK _ ?_); clear hK K)
          refine xr_load_nd _ rfl rfl _ rfl _ x rfl n1.out ?_
          iterate 3 ((with_reducible refine xr_step ?_); (refine ⟨_, rfl, ?_⟩); intro K hK; go_simp; (with_reducible refine hK _ ?_); clear hK K)
          refine xr_load_nd _ rfl rfl _ rfl _ y rfl n2.out ?_
          with_reducible refine xr_nil ?_
          with_reducible refine xe_nil ?_
          simp only [List.drop_succ_cons, List.drop_zero]
          go_wp2
          exact ⟨⟨i + 1, by omega, by simp, hd, Lib.hid HBW.out.drew⟩, by simp [intOf]; omega⟩
      · have hd := HD.out
        rw [List.drop_eq_nil_of_le (by rw [hna.out]; omega), List.drop_eq_nil_of_le (by rw [hnb.out]; omega)] at hd
        have hr := Lib.hid (show R = true from hd.symm)
        clear hd
        go_wp2
        go_ret
        rw [hr.out]
        exact ⟨rfl, HBW.out⟩
  · have hr := Lib.hid (show R = false by rw [← hR.out]; exact rowEq_len (by rw [hna.out, hnb.out]; exact l1))
    have q2 : ((na : Int) != (nb : Int)) = true := bne_iff_ne.2 (by omega)
    clear hR
    go_enter Try.func123, Try.ntmps123
    go_wp2
    go_ret
    rw [hr.out]
    exact ⟨rfl, Below.refl _ _⟩

set_option maxHeartbeats 4000000 in
theorem rsame_any (la lb : List Pr) (sa sb : Value) (w : World) (ha : RP w sa la) (hb : RP w sb lb) :
    Calls Try.prog 22 #[sa, sb] w fun e w' => e = .returned (.bool (rowEq (fun a b : Pr => decide (a = b)) la lb)) ∧ Below w.heap.size w w' := by
  obtain ⟨pa, ca, rfl, a1, a2⟩ := RowE.shape encP ha
  obtain ⟨pb, cb, rfl, b1, b2⟩ := RowE.shape encP hb
  have H1 := Lib.hid ha
  have H2 := Lib.hid hb
  clear ha hb
  unfold maxLen at a2 b2
  have HL := Lib.hid (@rfl _ (rowEq (fun a b : Pr => decide (a = b)) la lb))
  generalize hR : rowEq (fun a b : Pr => decide (a = b)) la lb = R
  rw [hR] at HL
  generalize hna : la.length = na at *
  generalize hnb : lb.length = nb at *
  replace hna := Lib.hid hna
  replace hnb := Lib.hid hnb
  replace hR := Lib.hid hR
  clear HL
  by_cases l1 : na = nb
  · subst l1
    have HD : Hid (rowEq (fun a b : Pr => decide (a = b)) (la.drop 0) (lb.drop 0) = R) := Lib.hid hR.out
    clear hR
    go_enter Try.func22, Try.ntmps22
    go_upto_region 4 with (fail)
    go_loopw [13] (fun s wr => ∃ i : Nat, i ≤ na ∧ s = .int .i64 i ∧ Hid (rowEq (fun a b : Pr => decide (a = b)) (la.drop i) (lb.drop i) = R) ∧ Hid (Below w.heap.size w wr)) (fun s _ => na - (intOf s).toNat)
    case atStart => exact ⟨0, Nat.zero_le _, rfl, HD, Lib.hid (Below.refl _ _)⟩
    case round =>
      clear HD
      obtain ⟨i, hi, rfl, hd, hbw⟩ := hrel
      have HD := Lib.hid hd.out
      have HBW := Lib.hid hbw.out
      clear hd hbw
      by_cases hlt : i < na
      · obtain ⟨x, hx⟩ : ∃ x, la[i]? = some x := ⟨_, List.getElem?_eq_getElem (by rw [hna.out]; exact hlt)⟩
        obtain ⟨y, hy⟩ : ∃ y, lb[i]? = some y := ⟨_, List.getElem?_eq_getElem (by rw [hnb.out]; exact hlt)⟩
        have hdr := HD.out
        rw [rowEq_drop hx hy] at hdr
        obtain ⟨a, rfl, d0, d1⟩ := RP.at H1.out hx
        obtain ⟨b, rfl, e0, e1⟩ := RP.at H2.out hy
        have n0 := Lib.hid (fun u : InC (LaterC wr.drew) => HBW.out.drew.trans (u.below.mono HBW.out.drew.size))
        replace d0 := fun u : InC (LaterC wr.drew) => ((n0.out u).cell (block_lt_of_cell d0)).trans d0
        replace d1 := fun u : InC (LaterC wr.drew) => ((n0.out u).cell (block_lt_of_cell d1)).trans d1
        replace e0 := fun u : InC (LaterC wr.drew) => ((n0.out u).cell (block_lt_of_cell e0)).trans e0
        replace e1 := fun u : InC (LaterC wr.drew) => ((n0.out u).cell (block_lt_of_cell e1)).trans e1
        have hq := fun w => eqPr_run x y w
        clear hx hy HD
        cases he : decide (x = y)
        · rw [he] at hq hdr
          have hr := Lib.hid (show R = false by rw [← hdr]; rfl)
          clear hdr he
          go_upto_region 6 with (fail)
          (refine region_order [0, 1, 2, 3, 4, 5, 6, 7] [] 8 (LaterC wr.drew) mix ?hB ?hC ?_; case hB => kernel_rfl); (case hC => exact Below.refl _ _)
          iterate 8 ((with_reducible refine xr_step ?_); (refine ⟨_, rfl, ?_⟩); intro K hK; go_simp; (with_reducible refine hK _ ?_); clear hK K)
          with_reducible refine xr_nil ?_
          with_reducible refine xe_nil ?_
          simp only [List.drop_succ_cons, List.drop_zero]
          clear d0 d1 e0 e1
          go_wp2
          go_ret
          rw [hr.out]
          exact ⟨rfl, HBW.out.drew⟩
        · rw [he] at hq hdr
          have hd := Lib.hid (show rowEq (fun a b : Pr => decide (a = b)) (la.drop (i + 1)) (lb.drop (i + 1)) = R by rw [← hdr]; rfl)
          clear hdr he
          go_upto_region 6 with (fail)
          (refine region_order [0, 1, 2, 3, 4, 5, 6, 7] [] 8 (LaterC wr.drew) mix ?hB ?hC ?_; case hB => kernel_rfl); (case hC => exact Below.refl _ _)
          iterate 8 ((with_reducible refine xr_step ?_); (refine ⟨_, rfl, ?_⟩); intro K hK; go_simp; (with_reducible refine hK _ ?_); clear hK K)
          with_reducible refine xr_nil ?_
          with_reducible refine xe_nil ?_
          simp only [List.drop_succ_cons, List.drop_zero]
          clear d0 d1 e0 e1
          go_wp2
          exact ⟨⟨i + 1, by omega, by simp, hd, Lib.hid HBW.out.drew⟩, by simp [intOf]; omega⟩
      · have hd := HD.out
        rw [List.drop_eq_nil_of_le (by rw [hna.out]; omega), List.drop_eq_nil_of_le (by rw [hnb.out]; omega)] at hd
        have hr := Lib.hid (show R = true from hd.symm)
        clear hd
        go_wp2
        go_ret
        rw [hr.out]
        exact ⟨rfl, HBW.out⟩
  · have hr := Lib.hid (show R = false by rw [← hR.out]; exact rowEq_len (by rw [hna.out, hnb.out]; exact l1))
    have q2 : ((na : Int) != (nb : Int)) = true := bne_iff_ne.2 (by omega)
    clear hR
    go_enter Try.func22, Try.ntmps22
    go_wp2
    go_ret
    rw [hr.out]
    exact ⟨rfl, Below.refl _ _⟩

set_option maxHeartbeats 4000000 in
theorem same_any (la lb : List Nd) (ra rb : Int) (sa sb : Value) (w : World) (ha : RN w sa la) (hb : RN w sb lb) :
    Calls Try.prog 71 #[.agg #[sa, .int .i64 ra], .agg #[sb, .int .i64 rb]] w fun e w' => e = .returned (.bool (likeT la ra lb rb)) ∧ Below w.heap.size w w' := by
  have KE := Lib.hid (fun W (hb2 : Below w.heap.size w W) => equalN_any la lb sa sb W (ha.below hb2 (Nat.le_refl _)) (hb.below hb2 (Nat.le_refl _)))
  obtain ⟨pa, ca, rfl, a1, a2⟩ := RowE.shape encN ha
  obtain ⟨pb, cb, rfl, b1, b2⟩ := RowE.shape encN hb
  clear ha hb
  have HL := Lib.hid (show likeT la ra lb rb = ((ra == rb) && rowEq ndEq la lb) from rfl)
  generalize likeT la ra lb rb = R at *
  have R1 := Lib.hid ((RowAt.new w #[.slice pa la.length ca, .int .i64 ra] 37).alloc (.cells #[.slice pb lb.length cb, .int .i64 rb] 37))
  have R2 := Lib.hid (RowAt.new' (w.alloc (.cells #[.slice pa la.length ca, .int .i64 ra] 37)) #[.slice pb lb.length cb, .int .i64 rb] 37 (k := w.heap.size + 1) (by simp))
  have HB := Lib.hid (bel2T w (.cells #[.slice pa la.length ca, .int .i64 ra] 37) (.cells #[.slice pb lb.length cb, .int .i64 rb] 37))
  obtain ⟨x0, x1, xf0, xf1⟩ := R1.out.c2
  obtain ⟨y0, y1, yf0, yf1⟩ := R2.out.c2
  by_cases e : ra = rb
  · have q' : (ra == rb) = true := by simp [e]
    clear e
    rw [q', Bool.true_and] at HL
    go_enter Try.func71, Try.ntmps71
    go_wp2_with (go_at_call 123; (with_reducible refine (KE.out _ HB.out).mono ?_); rintro e w2 ⟨rfl, hb⟩)
    go_ret
    rw [HL.out]
    exact ⟨rfl, HB.out.trans (hb.mono HB.out.size)⟩
  · have q' : (ra == rb) = false := by simp [e]
    rw [q', Bool.false_and] at HL
    clear e
    go_enter Try.func71, Try.ntmps71
    go_wp2
    go_ret
    rw [HL.out]
    exact ⟨rfl, HB.out⟩
end Go.Proofs.Ytefmlbckbhlgdaa
namespace Go.Proofs.Ytefmlbckbhlgdaa
open Go.RowKit Go.Shelf
set_option maxRecDepth 100000
set_option maxHeartbeats 4000000 in
theorem fresh_any (kd : Int) (w : World) : Calls Try.prog 126 #[.int .i64 kd] w fun e w' => e = .returned (.agg (ndc (frN kd))) ∧ Below w.heap.size w w' := by
  go_enter Try.func126, Try.ntmps126
  go_upto_region 3 with (refine wpList_store_nd rfl _ _ rfl (w.heap.size + 1) (frK kd 0) rfl rfl _ (RowAt.new' _ _ _ (by simp)) rfl ?_)
  intro W hr hb ho hs
  have R1 := Lib.hid hr
  have HB := Lib.hid (hb w.heap.size w (((Below.refl _ _).alloc (Nat.le_refl _) _).alloc (by simp) _) (Nat.le_succ _))
  obtain ⟨z0, R0⟩ : ∃ z0 : Array Value, Hid (RowAt W w.heap.size z0 88 ∧ z0.size = 19) := ⟨_, Lib.hid ⟨(ho w.heap.size (by omega)).trans ((RowAt.new w _ 88).alloc _), rfl⟩⟩
  clear hr hb ho hs
  go_upto_region 3 with (fail)
  go_loopw [7] (fun s wr => ∃ i : Nat, i ≤ 16 ∧ s = .int .i64 i ∧ Hid (RowAt wr (w.heap.size + 1) (ndc (frK kd i)) 88) ∧ Hid (RowAt wr w.heap.size z0 88 ∧ z0.size = 19) ∧ Hid (Below w.heap.size w wr)) (fun s _ => 16 - (intOf s).toNat)
  case atStart => exact ⟨0, Nat.zero_le _, rfl, R1, R0, HB⟩
  case round =>
    clear R1 R0 HB
    obtain ⟨i, hi, rfl, r1, r0, hb⟩ := hrel
    have R1 := Lib.hid r1.out
    have R0 := Lib.hid r0.out
    have HB := Lib.hid hb.out
    clear r1 r0 hb
    by_cases hlt : i < 16
    · obtain ⟨c3, f3⟩ := R1.out.ndK i hlt
      have R1' := Lib.hid (R1.out.set (3 + i) (.int .i64 (-1)) (frK_set kd i hlt))
      have R0' := Lib.hid (show RowAt (wr.setCell ⟨w.heap.size + 1, 3 + i, none⟩ (.int .i64 (-1))) w.heap.size z0 88 ∧ z0.size = 19 from ⟨R0.out.1.other ⟨w.heap.size + 1, 3 + i, none⟩ (.int .i64 (-1)) (by simp), R0.out.2⟩)
      have HB' := Lib.hid (HB.out.setCell (p := ⟨w.heap.size + 1, 3 + i, none⟩) (Nat.le_succ _) (.int .i64 (-1)))
      clear R1 R0 HB
      go_wp2
      exact ⟨⟨i + 1, by omega, by simp, R1', R0', HB'⟩, by simp [intOf]; omega⟩
    · obtain rfl : i = 16 := by omega
      go_wp2_with (first
        | (refine wpList_load_nd rfl _ rfl _ (frN kd) rfl (NdAt.ofRow (show RowAt wr (w.heap.size + 1) (ndc (frN kd)) 88 from R1.out)) ?_)
        | (refine wpList_store_nd rfl _ _ rfl w.heap.size (frN kd) rfl rfl z0 R0.out.1 R0.out.2 ?_))
      intro W2 hr2 hb2 ho2 hs2
      have R2 := Lib.hid hr2
      have HB2 := Lib.hid (hb2 w.heap.size w HB.out (Nat.le_refl _))
      clear hr2 hb2 ho2 hs2
      go_wp2
      refine bodyPost_ret (v := .agg (ndc (frN kd))) ?_ rfl ⟨rfl, HB2.out⟩
      exact results_cell_row Try.results126 _ _ w.heap.size 88 (ndc (frN kd)) (0, 0) _ rfl R2.out Try.underlying88 rfl (size_nd _)
end Go.Proofs.Ytefmlbckbhlgdaa
namespace Go.Proofs.Ytefmlbckbhlgdaa
open Go.RowKit Go.Shelf
set_option maxRecDepth 100000
/-- A row of which some are laid. -/
def fillP (L : List Pr) (i : Nat) : List Pr := L.take i ++ List.replicate (L.length - i) ([], [])
theorem fillP_at (L : List Pr) (i : Nat) (h : i < L.length) : (fillP L i)[i]? = some ([], []) := by
  unfold fillP
  rw [List.getElem?_append_right (by simp; omega), List.getElem?_replicate, if_pos (by simp; omega)]
theorem fillP_set (L : List Pr) (i : Nat) (y : Pr) (hy : L[i]? = some y) : (fillP L i).set i y = fillP L (i + 1) := by
  obtain ⟨h, e⟩ := List.getElem?_eq_some_iff.1 hy
  have hl : (L.take i).length = i := by simp; omega
  unfold fillP
  rw [List.set_append_right _ _ (by omega), hl, Nat.sub_self, show L.length - i = (L.length - (i + 1)) + 1 by omega, List.replicate_succ, List.set_cons_zero, List.take_add_one, hy, List.append_assoc]
  rfl
theorem fillP_all (L : List Pr) : fillP L L.length = L := by unfold fillP; simp
theorem flat_made (n : Nat) : (madeCells #[.string ⟨#[]⟩, .string ⟨#[]⟩] (n * 2)).toList = flat encP (List.replicate n ([], [])) := by
  apply List.ext_getElem?
  intro q
  have hf : (flat encP (List.replicate n (([], []) : Pr))).length = n * 2 := by rw [flat_length, List.length_replicate]; rfl
  by_cases hq : q < n * 2
  · have hd : q / 2 < n := by omega
    have hg : (List.replicate n (([], []) : Pr))[q / 2]? = some ([], []) := by rw [List.getElem?_replicate, if_pos hd]
    have h1 := flat_get encP hg (q % 2) (by show q % 2 < 2; omega)
    rw [show q / 2 * encP.k + q % 2 = q by show q / 2 * 2 + q % 2 = q; omega] at h1
    rw [h1]
    have h2 : q % 2 = 0 ∨ q % 2 = 1 := by omega
    unfold madeCells
    rcases h2 with h2 | h2 <;> simp [h2, hq, encP, mkS]
  · rw [List.getElem?_eq_none (l := flat encP _) (by rw [hf]; omega), List.getElem?_eq_none (by rw [Array.length_toList, size_madeCells]; omega)]
theorem OP.shape {w : World} {base : Nat} {v : Value} {l : List Pr} (h : OP w base v l) : ∃ (p : Option Addr) (c : Nat), v = .slice p l.length c ∧ l.length ≤ c ∧ c ≤ maxLen := RowE.shape encP (OwnE.row encP h)

set_option maxHeartbeats 4000000 in
theorem less_any (l : List Pr) (k : Nat) (v : Value) (w : World) (h : RP w v l) (hl : l.length ≤ 100000) (hk : ∀ p ∈ l, k ≤ p.1.length) (_hk2 : k ≤ 100000) :
    Calls Try.prog 129 #[v, .int .i64 k] w fun e w' => ∃ v', e = .returned v' ∧ RP w' v' (cutK k l) ∧ (∀ g, v'.ownBlock = some g → w.heap.size ≤ g) ∧ Below w.heap.size w w' := by
  obtain ⟨i0, hi, hz0, hz1, hz2⟩ := info_parts info_pr
  obtain ⟨pv, cv, rfl, z1, z2⟩ := RowE.shape encP h
  have HR := Lib.hid h
  unfold maxLen at z2
  have HC := Lib.hid (fun (i : Nat) (x : Pr) (hx : l[i]? = some x) => show (cutK k l)[i]? = some (x.1.drop k, x.2) by unfold cutK; rw [List.getElem?_map, hx]; rfl)
  have HKE := Lib.hid (fun (i : Nat) (x : Pr) (hx : l[i]? = some x) => hk x (List.mem_of_getElem? hx))
  have hcl : (cutK k l).length = l.length := List.length_map _
  generalize cutK k l = L at *
  generalize hn : l.length = n at *
  replace hn := Lib.hid hn
  replace hcl := Lib.hid hcl
  clear h hk
  go_enter Try.func129, Try.ntmps129
  go_upto_region 2 with (at_make; (refine wpList_make_full _ rfl _ _ 34 rfl w.heap.size 41 i0 _ 2 Try.underlying34 hi hz0 hz1 .i64 .i64 _ _ n rfl rfl rfl rfl (by rw [hz2]; omega) (by unfold maxLen; omega) (Nat.le_refl _) ?_); intro w1 hown hg)
  have O0 := Lib.hid (show OP w1 w.heap.size (.slice (some ⟨w.heap.size, 0, none⟩) n n) (fillP L 0) by
    have e : fillP L 0 = List.replicate n ([], []) := by unfold fillP; rw [List.take_zero, Nat.sub_zero, hcl.out]; rfl
    unfold OP OwnE
    rw [e, ← flat_made, List.length_replicate]
    exact hown)
  have HB0 := Lib.hid ((Below.refl w.heap.size w).grown hg (Nat.le_refl _) (fun k hk => by cases hk))
  clear hown hg hz0 hz1 hz2 hi i0
  go_upto_region 3 with (fail)
  go_loopw [13] (fun s wr => ∃ i : Nat, i ≤ n ∧ s = .int .i64 i ∧ Hid (OP wr w.heap.size (.slice (some ⟨w.heap.size, 0, none⟩) n n) (fillP L i)) ∧ Hid (Below w.heap.size w wr)) (fun s _ => n - (intOf s).toNat)
  case atStart => exact ⟨0, Nat.zero_le _, rfl, O0, HB0⟩
  case round =>
    clear O0 HB0
    obtain ⟨i, hi, rfl, ho, hb⟩ := hrel
    have O := Lib.hid ho.out
    have HB := Lib.hid hb.out
    clear ho hb
    by_cases hlt : i < n
    · obtain ⟨x, hx⟩ : ∃ x, l[i]? = some x := ⟨_, List.getElem?_eq_getElem (by rw [hn.out]; exact hlt)⟩
      obtain ⟨a, rfl, c0, c1⟩ := RP.at (RP.below HR.out HB.out (Nat.le_refl _)) hx
      have hcx := Lib.hid (HC.out i x hx)
      have hkx := HKE.out i x hx
      obtain ⟨xk, xv⟩ := x
      simp only at c0 c1 hkx
      have hsz : (mkS xk).size = xk.length := mk_size _
      have hdr := mkS_drop xk k
      rw [hsz] at hdr
      have HA := prAlloc wr (xk, xv)
      have O1 := Lib.hid (O.out.below HA (Nat.le_refl _))
      have HB1 := Lib.hid (HB.out.trans (HA.mono HB.out.size))
      have R1 := Lib.hid (RowAt.new wr #[.string (mkS xk), .string (mkS xv)] 41)
      clear HA hx O HB
      go_upto_region 5 with (fail)
      clear c0 c1
      generalize wr.alloc (.cells #[.string (mkS xk), .string (mkS xv)] 41) = w1 at *
      generalize wr.heap.size = k1 at *
      obtain ⟨y0, y1, yf0, yf1⟩ := R1.out.c2
      obtain ⟨g, eg, -, -, hcell, hfr, hset⟩ := OwnE.at (E := encP) O1.out (fillP_at L i (by rw [hcl.out]; exact hlt))
      obtain rfl : w.heap.size = g := by injection eg with eg; injection eg
      have m0 : w1.cell? ⟨w.heap.size, i * 2, none⟩ = some (.string (mkS [])) := hcell 0 _ rfl
      have m1 : w1.cell? ⟨w.heap.size, i * 2 + 1, none⟩ = some (.string (mkS [])) := hcell 1 _ rfl
      have f0 := hfr (i * 2)
      have f1 := hfr (i * 2 + 1)
      have O2 := Lib.hid (show OP ((w1.drew.setCell ⟨w.heap.size, i * 2, none⟩ (.string (mkS (xk.drop k)))).setCell ⟨w.heap.size, i * 2 + 1, none⟩ (.string (mkS xv))) w.heap.size (.slice (some ⟨w.heap.size, 0, none⟩) n n) (fillP L (i + 1)) by
        rw [← fillP_set L i _ hcx.out]
        exact hset (xk.drop k, xv) w1.drew (fun C h => h.drew))
      have HB2 := Lib.hid ((HB1.out.drew.setCell (p := ⟨w.heap.size, i * 2, none⟩) (Nat.le_refl _) (.string (mkS (xk.drop k)))).setCell (p := ⟨w.heap.size, i * 2 + 1, none⟩) (Nat.le_refl _) (.string (mkS xv)))
      clear hcell hfr hset eg O1 HB1 R1
      (refine region_tail 10 mix ?hB ?_; case hB => kernel_rfl); (simp only [List.take_succ_cons, List.take_zero, List.drop_succ_cons, List.drop_zero]; (iterate 10 (with_reducible refine wpStill_step ?_; intro K hK; go_simp; with_reducible refine hK _ ?_; clear hK K)); with_reducible refine wpStill_nil ?_)
      go_wp2
      exact ⟨⟨i + 1, by omega, by simp, O2, HB2⟩, by simp [intOf]; omega⟩
    · obtain rfl : i = n := by omega
      have O2 := Lib.hid (OwnE.row encP O.out)
      have ef : fillP L i = L := by rw [← hcl.out]; exact fillP_all L
      rw [ef] at O2
      go_wp2
      go_ret
      exact ⟨_, rfl, O2.out, fun g hg => by simp [Value.ownBlock] at hg; omega, HB.out⟩
end Go.Proofs.Ytefmlbckbhlgdaa
namespace Go.Proofs.Ytefmlbckbhlgdaa
open Go.RowKit Go.Shelf
set_option maxRecDepth 100000
section
variable {ops : Array Oper} {C : World → Prop}
theorem xe_one_nd {Q : Act → World → Prop} {a : Act} {w : World} {k : Nat} {es : List Nat} (o : Oper) (hk : ops[k]? = some o) (hgd : o.guard = none) (x : Operand) (ho : o.op = .buildSlice 35 1 #[(0, x)]) (n : Nd) (hx : a.eval x = .agg (ndc n))
    (hC : C (w.alloc (.cells (ndc n) 88))) (h : wpXE Try.prog ops C Q es (a.put o.dst (.slice (some ⟨w.heap.size, 0, none⟩) 1 1)) (w.alloc (.cells (ndc n) 88))) : wpXE Try.prog ops C Q (k :: es) a w := by
  refine xe_step ⟨o, hk, fun K hK => ?_⟩
  unfold Region.wanted
  rw [hgd]
  simp only [if_true]
  have e : (#[(0, x)].map fun (i, x) => (i, a.eval x)) = #[(0, .agg (ndc n))] := by simp [hx]
  unfold EX execOp
  simp only [ho, e, Sem.run_bind, run_one_nd w n, Result.andThen_ok]
  exact ⟨hC, hK _ _ h⟩
theorem xe_append_nd {Q : Act → World → Prop} {a : Act} {w : World} {k : Nat} {es : List Nat} (o : Oper) (hk : ops[k]? = some o) (hgd : o.guard = none) (s x : Operand)
    (ho : o.op = .call { callee := .builtin .append, args := #[s, x], argTypes := #[35, 35] }) (base : Nat) (v : Value) (l : List Nd) (hs : a.eval s = v) (hown : ON w base v l)
    (ad : Addr) (y : Nd) (hx : a.eval x = .slice (some ad) 1 1) (hc : NdAt w ad y) (hb : l.length ≤ 600000) (hbase : base ≤ w.heap.size)
    (h : ∀ v' w', ON w' base v' (l ++ [y]) → w.grownBy w' v.ownBlock → (∀ g, v'.ownBlock = some g → v.ownBlock = some g ∨ w.heap.size ≤ g) → C w' ∧ wpXE Try.prog ops C Q es (a.put o.dst v') w') : wpXE Try.prog ops C Q (k :: es) a w := by
  obtain ⟨v', w', hr, h1, h2, h3⟩ := run_append_oneE encN Try.underlying35 info_nd rfl w o.type base v l hown ad y (fun j u hj => hc j u (by simpa [encN] using hj)) (by unfold maxLen; omega) (by omega) hbase
  obtain ⟨hC, hn⟩ := h v' w' h1 h2 h3
  refine xe_step ⟨o, hk, fun K hK => ?_⟩
  unfold Region.wanted
  rw [hgd]
  simp only [if_true]
  unfold EX execOp
  simp only [ho, resolve, invoke, builtin, Sem.run_bind, Sem.run_pure, Result.andThen_ok, List.map_toArray, List.map_cons, List.map_nil, hs, hx, hr]
  exact ⟨hC, hK _ _ hn⟩
end
/-- The worlds in which all blocks but a row's own are as they were. -/
def GrC (r : Option Nat) (W w' : World) : Prop := W.grownBy w' r
theorem RowAt.gr {W : World} {r : Option Nat} {k : Nat} {cs : Array Value} {T : TypeId} (h : RowAt W k cs T) (hne : r ≠ some k) (u : InC (GrC r W)) : RowAt u.w k cs T := h.grown u.is (fun e => hne e.symm)
theorem grownBy_transT {a b c : World} {r : Option Nat} (h : a.grownBy b r) (k : b.grownBy c r) : a.grownBy c r :=
  ⟨k.os.trans h.os, k.tape.trans h.tape, k.output.trans h.output, Nat.le_trans h.size k.size, fun i hi h2 => (k.block i (by have := h.size; omega) h2).trans (h.block i hi h2)⟩
theorem grownBy_allocT (w : World) (o : Obj) (r : Option Nat) : w.grownBy (w.alloc o) r :=
  ⟨rfl, rfl, rfl, by simp, fun i hi _ => Below.heap_alloc w o i hi⟩

set_option maxHeartbeats 4000000 in
theorem alay_any (nd : Nd) (ns : List Nd) (ka : Nat) (sv : Value) (w : World) (hr : RowAt w ka #[sv] 132) (ho : ON w (ka + 1) sv ns) (hl : ns.length ≤ 600000) :
    Calls Try.prog 127 #[.pointer (some ⟨ka, 0, none⟩), .agg (ndc nd)] w fun e w' => ∃ sv', e = .returned (.int .i64 ns.length) ∧ RowAt w' ka #[sv'] 132 ∧ ON w' (ka + 1) sv' (ns ++ [nd]) ∧ AK ka sv.ownBlock w w' ∧ ∀ g, sv'.ownBlock = some g → sv.ownBlock = some g ∨ w.heap.size ≤ g := by
  obtain ⟨p, c, rfl, z1, z2⟩ := RowE.shape encN (OwnE.row encN ho)
  unfold maxLen at z2
  have hown : ∀ g, (Value.slice p ns.length c).ownBlock = some g → ka + 1 ≤ g ∧ g < w.heap.size := fun g hg => World.ownsRow.lt ho g hg
  have R1 := Lib.hid (hr.alloc (.cells (ndc nd) 88)).drew
  have RN1 := Lib.hid (RowAt.new w (ndc nd) 88).drew
  have O1 := Lib.hid (ho.below (((Below.refl w.heap.size w).alloc (Nat.le_refl _) (.cells (ndc nd) 88)).drew) (Nat.le_refl _))
  have N1 := Lib.hid (show ka + 1 ≤ w.heap.size from hr.lt)
  have HO := Lib.hid hown
  have AK1 := Lib.hid (AK.ofBelow (ka := ka) (r := (Value.slice p ns.length c).ownBlock) (((Below.refl w.heap.size w).alloc (Nat.le_refl _) (.cells (ndc nd) 88)).drew))
  have HZ := Lib.hid (show (w.alloc (.cells (ndc nd) 88)).heap.size = w.heap.size + 1 by simp)
  clear hr ho hown
  go_enter Try.func127, Try.ntmps127
  go_upto_region 1 with (fail)
  generalize w.alloc (.cells (ndc nd) 88) = w1 at *
  have r1 : ∀ u : InC (GrC (Value.slice p ns.length c).ownBlock w1.drew), u.w.cell? ⟨ka, 0, none⟩ = some (.slice p ns.length c) := fun u => (R1.out.gr (fun e => by have := (HO.out ka e).1; omega) u).cell 0
  have rn := Lib.hid (fun u : InC (GrC (Value.slice p ns.length c).ownBlock w1.drew) => NdAt.ofRow (RN1.out.gr (fun e => by have := (HO.out _ e).2; omega) u))
  haveI : Nonempty (InC (GrC (Value.slice p ns.length c).ownBlock w1.drew)) := ⟨⟨w1.drew, World.grownBy.refl _ _⟩⟩
  (refine region_order [0, 1, 2, 3, 4, 5] [6, 7] 8 (GrC (Value.slice p ns.length c).ownBlock w1.drew) mix ?hB ?hC ?_; case hB => kernel_rfl); (case hC => exact World.grownBy.refl _ _)
  iterate 5 ((with_reducible refine xr_step ?_); (refine ⟨_, rfl, ?_⟩); intro K hK; go_simp; (with_reducible refine hK _ ?_); clear hK K)
  refine xr_load_nd _ rfl rfl _ rfl _ nd rfl rn.out ?_
  with_reducible refine xr_nil ?_
  refine xe_one_nd _ rfl rfl _ rfl nd rfl (grownBy_allocT w1.drew _ _) ?_
  have R2 := Lib.hid (R1.out.alloc (.cells (ndc nd) 88))
  have O2 := Lib.hid (O1.out.below ((Below.refl w1.drew.heap.size w1.drew).alloc (Nat.le_refl _) (.cells (ndc nd) 88)) (Nat.le_refl _))
  have RN2 := Lib.hid (RowAt.new w1.drew (ndc nd) 88)
  have AK2 := Lib.hid (AK1.out.trans (AK.ofBelow (ka := ka) (r := (Value.slice p ns.length c).ownBlock) ((Below.refl w1.drew.heap.size w1.drew).alloc (Nat.le_refl _) (.cells (ndc nd) 88))) (fun g e => .inl e))
  have HZ2 := Lib.hid (show w.heap.size ≤ (w1.drew.alloc (.cells (ndc nd) 88)).heap.size from AK2.out.size)
  clear R1 O1 RN1 AK1 HZ r1 rn
  refine xe_append_nd _ rfl rfl _ _ rfl (ka + 1) (.slice p ns.length c) ns rfl O2.out _ nd rfl (NdAt.ofRow RN2.out) hl (Nat.le_trans N1.out HZ2.out) ?_
  intro v' w3 ho3 hg3 hn3
  refine ⟨grownBy_transT (grownBy_allocT w1.drew _ _) hg3, ?_⟩
  with_reducible refine xe_nil ?_
  simp only [List.drop_succ_cons, List.drop_zero]
  have R3 := Lib.hid (R2.out.grown hg3 (fun e => by have := (HO.out ka e.symm).1; omega))
  have AK3 := Lib.hid (AK2.out.trans (AK.ofGrown (ka := ka) hg3) (fun g e => .inl e))
  have HN := Lib.hid (show ∀ g, v'.ownBlock = some g → (Value.slice p ns.length c).ownBlock = some g ∨ w.heap.size ≤ g from fun g e => (hn3 g e).imp id (fun h => Nat.le_trans HZ2.out h))
  have O3 := Lib.hid (show ON w3 (ka + 1) v' (ns ++ [nd]) from ho3)
  have HO3 := Lib.hid (fun g (hg : v'.ownBlock = some g) => World.ownsRow.lt ho3 g hg)
  clear ho3 hg3 hn3 R2 AK2 O2 RN2 HZ2
  obtain ⟨p', c', rfl, z3, z4⟩ := RowE.shape encN (OwnE.row encN O3.out)
  simp only [List.length_append, List.length_singleton] at *
  have HR4 := Lib.hid (R3.out.set 0 (.slice p' (ns.length + 1) c') (cs' := #[.slice p' (ns.length + 1) c']) rfl)
  have AK4 := Lib.hid (AK3.out.same (AK.set 0 (.slice p' (ns.length + 1) c')))
  have O4 := Lib.hid (show ON (w3.setCell ⟨ka, 0, none⟩ (.slice p' (ns.length + 1) c')) (ka + 1) (.slice p' (ns.length + 1) c') (ns ++ [nd]) from ownsRow_setCell_below O3.out (by simp) _)
  have q0 : w3.cell? ⟨ka, 0, none⟩ = some (.slice p ns.length c) := R3.out.cell 0
  have q1 := R3.out.frozen 0
  clear R3 AK3 O3
  go_upto_region 2 with (fail)
  generalize w3.setCell ⟨ka, 0, none⟩ (.slice p' (ns.length + 1) c') = w4 at *
  have q2 : w4.cell? ⟨ka, 0, none⟩ = some (.slice p' (ns.length + 1) c') := HR4.out.cell 0
  unfold maxLen at z4
  go_wp2
  go_ret
  exact ⟨_, by first | rfl | simp, HR4.out, O4.out, AK4.out, HN.out⟩
end Go.Proofs.Ytefmlbckbhlgdaa

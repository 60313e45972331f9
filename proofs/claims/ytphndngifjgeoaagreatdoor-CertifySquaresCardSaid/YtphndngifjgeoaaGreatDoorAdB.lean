/- Numbers and dyadic ones that come in, by value; the table; the program's own facts. -/
import Derived.Test.YtphndngifjgeoaaGreatDoorAdA
import Derived.Test.YtphndngifjgeoaaGreatDoorCyA
import Derived.Deep.Strs
import Derived.SizedLaws
import Derived.JoinedCond
import Derived.LaidLaws
import Derived.Handed
set_option linter.unusedVariables false
set_option linter.unusedSimpArgs false
set_option maxRecDepth 20000
namespace Go.Proofs.YtphndngifjgeoaaGreatDoor
open Go.Proofs
open Go.ChangeShapes Go.WideShapes Go.ChangeAt Go.RowKit Go.Joins

theorem own : ownKnob Tryz.prog.godebug = none := by kernel_rfl
theorem laidOut : laidOutB Tryz.prog = true := by kernel_rfl
section
variable {H : Type} {enc : TypeId × Value → H} {w : World}
theorem map_of {α : Type} {f : α → PV} {R : α → Prop} : ∀ {es : List PV}, (∀ p, p ∈ es → ∃ x, p = f x ∧ R x) → ∃ l : List α, es = l.map f ∧ ∀ x, x ∈ l → R x
  | [], _ => ⟨[], rfl, by simp⟩
  | p :: es, h => by
    obtain ⟨x, rfl, hx⟩ := h p (by simp)
    obtain ⟨l, rfl, hl⟩ := map_of (f := f) (R := R) (es := es) fun q hq => h q (by simp [hq])
    exact ⟨x :: l, rfl, fun y hy => by rcases List.mem_cons.1 hy with rfl | e; exact hx; exact hl y e⟩
theorem opens_limbs (m : Nat) : Opens enc Tryz.prog w 25 1 m fun p => ∃ (i : Sid) (l : List Nat), p = .sl i 1 (u32s l) ∧ i.f = 0 ∧ l.length * 4 ≤ m ∧ Lim l :=
  (opens_slice Tryz.underlying25 (z := 1) (by kernel_rfl) (by omega) (opens_int (k := .u32) m Tryz.underlying56)).mono fun p ⟨i, es, h1, h2, _, h3, _, h4⟩ => by
    obtain ⟨l, rfl, hl⟩ := map_of (f := fun (x : Nat) => PV.int .u32 (x : Int)) (R := fun x => x < 4294967296) (es := es) fun q hq => by
      obtain ⟨z, rfl, hz⟩ := h4 q hq
      have : 0 ≤ z ∧ z < 4294967296 := by simp [Lit.wf, IntKind.min, IntKind.max, IntKind.signed, IntKind.bits] at hz; omega
      exact ⟨z.toNat, by rw [show ((z.toNat : Nat) : Int) = z by omega], by omega⟩
    refine ⟨i, l, h1, h2, ?_, fun x hx => hl x hx⟩
    have : Tryz.prog.bytesOf 56 = 4 := by kernel_rfl
    rw [this] at h3; simpa using h3
theorem opens_whole (m : Nat) : Opens enc Tryz.prog w 27 2 m fun p => ∃ (b : Bool) (i : Sid) (l : List Nat), p = .agg [.bool b, .sl i 1 (u32s l)] ∧ i.f = 0 ∧ l.length * 4 ≤ m ∧ Lim l :=
  (opens_struct2 (z0 := 1) (z1 := 1) Tryz.underlying27 rfl rfl (by kernel_rfl) (by kernel_rfl) (by kernel_rfl) (opens_bool m Tryz.underlying4) (opens_limbs m)).mono fun p ⟨p0, p1, h, ⟨b, hb⟩, i, l, h1, h2, h3, h4⟩ => by
    subst hb; subst h1
    exact ⟨b, i, l, by rw [h]; rfl, h2, h3, h4⟩
theorem opens_dyadic (m : Nat) : Opens enc Tryz.prog w 29 3 m fun p => ∃ (b : Bool) (i : Sid) (l : List Nat) (e : Int), p = D b i l e ∧ i.f = 0 ∧ l.length * 4 ≤ m ∧ Lim l ∧ -9223372036854775808 ≤ e ∧ e < 9223372036854775808 :=
  (opens_struct2 (z0 := 2) (z1 := 1) Tryz.underlying29 rfl rfl (by kernel_rfl) (by kernel_rfl) (by kernel_rfl) (opens_whole m) (opens_int (k := .i64) m Tryz.underlying3)).mono fun p ⟨p0, p1, h, ⟨b, i, l, h1, h2, h3, h4⟩, e, h5, h6⟩ => by
    subst h1; subst h5
    exact ⟨b, i, l, e, by rw [h]; rfl, h2, h3, h4, by simp [Lit.wf, IntKind.min, IntKind.max, IntKind.signed, IntKind.bits] at h6; omega⟩
theorem open_dyadic {r : Reach} {b0 : Nat} {v : Value} {d : DataW H} {ps : List MemPlace} (hv : Value.okWide Tryz.prog w r b0 29 v) (h : DataW.Trod enc Tryz.prog w 0 (fun _ => true) true 29 v d ps) (hk : ∀ x, x ∈ d.weights Tryz.prog 29 → x ≤ reachBytes) :
    ∃ (b : Bool) (i : Sid) (l : List Nat) (e : Int), i.f = 0 ∧ l.length < 35184372088800 ∧ Lim l ∧ (-9223372036854775808 ≤ e ∧ e < 9223372036854775808) ∧ VRel [] (lay1 w) w (D b i l e) v := by
  obtain ⟨cs, rfl, hsz⟩ := okWide_struct Tryz.underlying29 hv
  obtain ⟨fuel, hf⟩ := h
  obtain ⟨p, ⟨b, i, l, e, rfl, h1, h2, h3, h4, h5⟩, _, hr, _⟩ := opens_dyadic reachBytes fuel _ _ hf hk
  have e : reachBytes = 140737488351232 := rfl
  refine ⟨b, i, l, _, h1, by omega, h3, ⟨h4, h5⟩, ?_⟩
  unfold D VRel
  exact ⟨cs, rfl, hr⟩
theorem opens_struct3 {P : Program} {t : TypeId} {f0 f1 f2 : Field} {z0 z1 z2 m : Nat} {G0 G1 G2 : PV → Prop} (ht : P.underlying t = some (.struct #[f0, f1, f2])) (o0 : f0.offset = 0) (o1 : f1.offset = z0) (o2 : f2.offset = z0 + z1) (c0 : P.cellsOf f0.type = z0) (c1 : P.cellsOf f1.type = z1) (c2 : P.cellsOf f2.type = z2) (c : P.cellsOf t = z0 + z1 + z2)
    (h0 : Opens enc P w f0.type z0 m G0) (h1 : Opens enc P w f1.type z1 m G1) (h2 : Opens enc P w f2.type z2 m G2) : Opens enc P w t (z0 + z1 + z2) m fun p => ∃ p0 p1 p2, p = .agg (p0.cells ++ p1.cells ++ p2.cells) ∧ G0 p0 ∧ G1 p1 ∧ G2 p2 := fun fuel cs y hy hw => by
  obtain ⟨y0, y1, y2, n, hx, hl, t0, t1, t2⟩ := Go.Deep.trod_struct3 ht hy
  subst hx
  rw [o0, c0, List.drop_zero] at t0
  rw [o1, c1] at t1
  rw [o2, c2] at t2
  obtain ⟨p0, g0, l0, r0, s0⟩ := h0 n _ _ t0 fun x hx => hw x (by simp [DataW.weights, ht, DataW.weightsEach]; exact .inl hx)
  obtain ⟨p1, g1, l1, r1, s1⟩ := h1 n _ _ t1 fun x hx => hw x (by simp [DataW.weights, ht, DataW.weightsEach]; exact .inr (.inl hx))
  obtain ⟨p2, g2, l2, r2, s2⟩ := h2 n _ _ t2 fun x hx => hw x (by simp [DataW.weights, ht, DataW.weightsEach]; exact .inr (.inr hx))
  have e : cs = cs.take z0 ++ (cs.drop z0).take z1 ++ (cs.drop (z0 + z1)).take z2 := by
    rw [List.take_of_length_le (l := cs.drop (z0 + z1)) (by simp; omega), ← List.drop_drop, List.append_assoc, List.take_append_drop, List.take_append_drop]
  refine ⟨.agg (p0.cells ++ p1.cells ++ p2.cells), ⟨p0, p1, p2, rfl, g0, g1, g2⟩, by rw [cells_agg, List.length_append, List.length_append, l0, l1, l2], ?_, ?_⟩
  · rw [e]; exact (r0.append r1).append r2
  · intro v hv
    rw [e] at hv
    rcases List.mem_append.1 hv with h | h
    · rcases List.mem_append.1 h with h | h
      · exact s0 v h
      · exact s1 v h
    · exact s2 v h
theorem opens_bits (m : Nat) : Opens enc Tryz.prog w 22 1 m fun p => ∃ (i : Sid) (l : List Nat), p = .sl i 1 (bts l) ∧ i.f = 0 ∧ l.length * 8 ≤ m ∧ Bt l :=
  (opens_slice Tryz.underlying22 (z := 1) (by kernel_rfl) (by omega) (opens_int (k := .u64) m Tryz.underlying49)).mono fun p ⟨i, es, h1, h2, _, h3, _, h4⟩ => by
    obtain ⟨l, rfl, hl⟩ := map_of (f := fun (x : Nat) => PV.int .u64 (x : Int)) (R := fun x => x < 18446744073709551616) (es := es) fun q hq => by
      obtain ⟨z, rfl, hz⟩ := h4 q hq
      have : 0 ≤ z ∧ z < 18446744073709551616 := by simp [Lit.wf, IntKind.min, IntKind.max, IntKind.signed, IntKind.bits] at hz; omega
      exact ⟨z.toNat, by rw [show ((z.toNat : Nat) : Int) = z by omega], by omega⟩
    refine ⟨i, l, h1, h2, ?_, fun x hx => hl x hx⟩
    have : Tryz.prog.bytesOf 49 = 8 := by kernel_rfl
    rw [this] at h3; simpa using h3
theorem opens_matrix (m : Nat) : Opens enc Tryz.prog w 24 3 m fun p => ∃ (r c : Int) (i : Sid) (l : List Nat), p = Mx r c i l ∧ i.f = 0 ∧ l.length * 8 ≤ m ∧ Bt l :=
  (opens_struct3 (z0 := 1) (z1 := 1) (z2 := 1) Tryz.underlying24 rfl rfl rfl (by kernel_rfl) (by kernel_rfl) (by kernel_rfl) (by kernel_rfl) (opens_int (k := .i64) m Tryz.underlying3) (opens_int (k := .i64) m Tryz.underlying3) (opens_bits m)).mono fun p ⟨p0, p1, p2, h, ⟨r, h1, _⟩, ⟨c, h2, _⟩, i, l, h3, h4, h5, h6⟩ => by
    subst h1; subst h2; subst h3
    exact ⟨r, c, i, l, by rw [h]; rfl, h4, h5, h6⟩
theorem open_matrix {r : Reach} {b0 : Nat} {v : Value} {d : DataW H} {ps : List MemPlace} (hv : Value.okWide Tryz.prog w r b0 24 v) (h : DataW.Trod enc Tryz.prog w 0 (fun _ => true) true 24 v d ps) (hk : ∀ x, x ∈ d.weights Tryz.prog 24 → x ≤ reachBytes) :
    ∃ (r c : Int) (i : Sid) (l : List Nat), i.f = 0 ∧ l.length < 35184372088800 ∧ Bt l ∧ VRel [] (lay1 w) w (Mx r c i l) v := by
  obtain ⟨cs, rfl, hsz⟩ := okWide_struct Tryz.underlying24 hv
  obtain ⟨fuel, hf⟩ := h
  obtain ⟨p, ⟨r, c, i, l, rfl, h1, h2, h3⟩, _, hr, _⟩ := opens_matrix reachBytes fuel _ _ hf hk
  have e : reachBytes = 140737488351232 := rfl
  refine ⟨r, c, i, l, h1, by omega, h3, ?_⟩
  unfold VRel
  exact ⟨cs, rfl, hr⟩
end

/-! ### the table -/
theorem mapM_get {α β : Type} {f : α → Option β} : ∀ (l : List α) (xs : List β), l.mapM f = some xs → ∀ (i : Nat) (a : α), l[i]? = some a → ∃ y, f a = some y ∧ xs[i]? = some y
  | [], xs, h, i, a, hi => by simp at hi
  | x :: t, xs, h, i, a, hi => by
    simp only [List.mapM_cons, Option.bind_eq_bind, Option.bind_eq_some_iff, Option.pure_def, Option.some.injEq] at h
    obtain ⟨y, hy, ys, hys, rfl⟩ := h
    cases i with
    | zero => simp at hi; subst hi; exact ⟨y, hy, rfl⟩
    | succ i => simp at hi ⊢; exact mapM_get t ys hys i a hi
def tabVals : List Int := [0, 1, 28, 2, 29, 14, 24, 3, 30, 22, 20, 15, 25, 17, 4, 8, 31, 27, 13, 23, 21, 19, 16, 7, 26, 12, 18, 6, 11, 5, 10, 9]
def tabData {H : Type} : DataW H := .agg (tabVals.map fun n => .lit (.int .u8 n))
theorem tab_tabs : tabs = [(0, tabVals.map fun n => Value.int .u8 n)] := by rfl
theorem tab_laid {H : Type} : (Rows.laid_math_bits_deBruijn32tab : DataW H) = tabData := by rfl
theorem tabName : Tryz.prog.globalNamed "math/bits.deBruijn32tab" = some 0 := by kernel_rfl
theorem tabType : (Tryz.prog.globals[0]?).map (·.type) = some 124 := by kernel_rfl
theorem cells124 : Tryz.prog.cellsOf 124 = 32 := by kernel_rfl
theorem cells5 : Tryz.prog.cellsOf 5 = 1 := by kernel_rfl
theorem table_of_laid {W : World} (h : laidMet Tryz.prog [("math/bits.deBruijn32tab", Rows.laid_math_bits_deBruijn32tab)] W) : ∀ b C, (b, C) ∈ tabs → ∃ el fz, W.heap[b]? = some (.cells C.toArray el fz) := by
  obtain ⟨ps, ⟨g, t, cs, fuel, p, q, hg, ht, hvar, hd, _, _⟩, _⟩ := h
  obtain rfl := Option.some.inj (tabName.symm.trans hg)
  obtain rfl := Option.some.inj (tabType.symm.trans ht)
  have hcs : cs = (tabVals.map fun n => Value.int .u8 n).toArray := by
    obtain ⟨l⟩ := cs
    cases fuel with
    | zero => simp [DataW.trod] at hd
    | succ fuel =>
      simp only [DataW.trod, Tryz.underlying124, cells124, cells5] at hd
      split at hd
      · rename_i hl
        obtain ⟨xs, hxs, hx⟩ := Option.map_eq_some_iff.1 hd
        simp only [Prod.mk.injEq] at hx
        rw [tab_laid] at hx
        have hmap : xs.map (·.1) = tabVals.map fun n => DataW.lit (.int .u8 n) := by
          have := hx.1
          simpa [tabData] using this
        simp only [List.size_toArray, Array.mk.injEq] at *
        have hlen : tabVals.length = 32 := rfl
        apply List.ext_getElem?
        intro i
        by_cases hi : i < 32
        · obtain ⟨y, hy, hyx⟩ := mapM_get _ _ hxs i i (by simp [hi])
          have hli : i < l.length := by omega
          have e1 : (l.drop (i * 1)).take 1 = [l[i]] := by
            rw [Nat.mul_one, List.drop_eq_getElem_cons hli]; rfl
          rw [e1] at hy
          obtain ⟨n, e2, e3, _⟩ := DataW.trod_int Tryz.underlying5 hy
          simp at e2
          have e4 := congrArg (fun z => z[i]?) hmap
          simp only [List.getElem?_map, hyx, Option.map_some, e3] at e4
          rw [List.getElem?_map, List.getElem?_eq_getElem hli, e2]
          cases ht : tabVals[i]? with
          | none => rw [ht] at e4; cases e4
          | some m =>
            rw [ht] at e4
            simp at e4
            simp [e4]
        · rw [List.getElem?_eq_none (by omega), List.getElem?_eq_none (by simp [hlen]; omega)]
      · cases hd
  subst hcs
  intro b C hC
  rw [tab_tabs] at hC
  simp only [List.mem_singleton, Prod.mk.injEq] at hC
  obtain ⟨rfl, rfl⟩ := hC
  unfold World.var? at hvar
  rw [tabName] at hvar
  simp only [Option.bind_some] at hvar
  split at hvar
  · rename_i cs0 el fz he
    simp only [Option.some.injEq] at hvar
    subst hvar
    exact ⟨el, fz, he⟩
  · cases hvar
/-- The settled world, but the table as it is laid. -/
noncomputable def laidWorld (os : Os) : World :=
  let w0 := World.holding Tryz.prog os ⟨#[], #[], []⟩
  { w0 with heap := w0.heap.modify 0 fun
      | .cells _ t frozen => .cells (tabVals.map fun n => Value.int .u8 n).toArray t frozen
      | o => o }
end Go.Proofs.YtphndngifjgeoaaGreatDoor

/- From a row's input to a by-value call: the program's own facts, its tables, whole and dyadic numbers that came in. -/
import Derived.Test.YtaankihkejodgaaDoorAdA
import Derived.Test.YtaankihkejodgaaDoorDyB
import Derived.SizedLaws
import Derived.JoinedCond
import Derived.LaidLaws
import Derived.Handed
set_option linter.unusedVariables false
set_option linter.unusedSimpArgs false
namespace Go.Proofs.YtaankihkejodgaaDoor
open Go.Proofs
open Go.ChangeShapes Go.WideShapes Go.ChangeAt Go.RowKit Go.Joins

theorem own : ownKnob Tryd.prog.godebug = none := by kernel_rfl
theorem laidOut : laidOutB Tryd.prog = true := by kernel_rfl

theorem bulkAll_len {H : Type} : ∀ (l : List (DataW H)), l.length ≤ Rows.uptoBulkAll l
  | [] => by simp [Rows.uptoBulkAll]
  | d :: r => by
    have h : 1 ≤ Rows.uptoBulk d := by cases d <;> (try rename_i x; cases x) <;> simp [Rows.uptoBulk]
    have := bulkAll_len r
    simp [Rows.uptoBulkAll]; omega

/-- How long a slice that came in is beside what is told of its reading. -/
theorem ints_len {P : Program} {H : Type} {enc : TypeId × Value → H} {w : World} {t e : TypeId} {k : IntKind} {fuel : Nat} {a : Option Addr} {len cap : Nat} {y : DataW H × List MemPlace} (ht : P.underlying t = some (.slice e)) (he : P.underlying e = some (.int k)) (hc : P.cellsOf e = 1)
    (h : DataW.trod enc P w 0 (fun _ => true) true fuel t [.slice a len cap] = some y) : len ≤ Rows.uptoBulk y.1 ∧ ∀ m, (∀ x, x ∈ y.1.weights P t → x ≤ m) → len * P.bytesOf e ≤ m := by
  rcases open_ints ht he hc h with ⟨hcs, _⟩ | ⟨x, l, c, zs, hcs, _, hl, hm, hz, hy, hcell, hwz⟩
  · simp at hcs
    obtain ⟨rfl, rfl, rfl⟩ := hcs
    simp
  · simp at hcs
    obtain ⟨rfl, rfl, rfl⟩ := hcs
    simp at hz
    subst hy
    have hle : len = (lits (H := H) k (zs.take len)).length := by simp [lits, hz]; omega
    constructor
    · have := bulkAll_len (lits (H := H) k (zs.take len))
      simp only [Rows.uptoBulk]; omega
    · intro m hmx
      have := hmx (((lits (H := H) k (zs.take len)).length + (lits (H := H) k (zs.drop len)).length) * P.bytesOf e) (by simp [DataW.weights, ht])
      refine Nat.le_trans (Nat.mul_le_mul_right _ ?_) this
      omega
theorem bytes_u32 : Tryd.prog.bytesOf 49 = 4 := by kernel_rfl
theorem cells24 : Tryd.prog.cellsOf 24 = 2 := by kernel_rfl
theorem cells28 : Tryd.prog.cellsOf 28 = 3 := by kernel_rfl
theorem cells22 : Tryd.prog.cellsOf 22 = 1 := by kernel_rfl
theorem cells4 : Tryd.prog.cellsOf 4 = 1 := by kernel_rfl
theorem cells3 : Tryd.prog.cellsOf 3 = 1 := by kernel_rfl
theorem cells49 : Tryd.prog.cellsOf 49 = 1 := by kernel_rfl

/-- A whole number's two cells. -/
theorem whole_cells {H : Type} {enc : TypeId × Value → H} {W : World} {m : Nat} {c0 c1 : Value} {y : DataW H × List MemPlace} (h : DataW.trod enc Tryd.prog W 0 (fun _ => true) true m 24 [c0, c1] = some y) :
    ∃ (neg : Bool) (a : Option Addr) (cap : Nat) (l : List Nat) (b o : Nat), c0 = .bool neg ∧ c1 = .slice a l.length cap ∧ RowAt W a cap l b o ∧ l.length ≤ Rows.uptoBulk y.1 ∧ ((∀ x, x ∈ y.1.weights Tryd.prog 24 → x ≤ reachBytes) → l.length ≤ 35184372087808) := by
  obtain ⟨y0, y1, n, hx, _, h0, h1⟩ := trod_struct2 Tryd.underlying24 h
  simp only [cells4, cells22, List.drop, List.take] at h0 h1
  obtain ⟨neg, e0, _⟩ := DataW.trod_bool Tryd.underlying4 h0
  simp at e0
  subst e0
  have hs : ∃ a len cap, c1 = .slice a len cap := by
    rcases open_ints Tryd.underlying22 Tryd.underlying49 cells49 h1 with ⟨hcs, _⟩ | ⟨x, l, c, zs, hcs, _⟩
    · simp at hcs; exact ⟨_, _, _, hcs⟩
    · simp at hcs; exact ⟨_, _, _, hcs⟩
  obtain ⟨a, len, cap, rfl⟩ := hs
  have hh := ints_len Tryd.underlying22 Tryd.underlying49 cells49 h1
  obtain ⟨l, b, o, rfl, hrow⟩ := row_of_slice (n := 0) Tryd.underlying22 Tryd.underlying49 cells49 h1
  subst hx
  refine ⟨neg, a, cap, l, b, o, rfl, rfl, hrow, ?_, ?_⟩
  · simp only [Rows.uptoBulk, Rows.uptoBulkAll]; omega
  · intro hx
    have h2 := hh.2 reachBytes fun x hx' => hx x (by simp only [DataW.weights, Tryd.underlying24]; simp [DataW.weightsEach]; exact .inr hx')
    rw [bytes_u32] at h2
    have : reachBytes = 140737488351232 := rfl
    omega
theorem open_whole {H : Type} {enc : TypeId × Value → H} {W : World} {r : Reach} {b0 : Nat} {v : Value} {d : DataW H} {p : List MemPlace} (hv : Value.okWide Tryd.prog W r b0 24 v) (h : DataW.Trod enc Tryd.prog W 0 (fun _ => true) true 24 v d p) :
    ∃ (neg : Bool) (a : Option Addr) (cap : Nat) (l : List Nat) (b o : Nat), v = .agg #[.bool neg, .slice a l.length cap] ∧ RowAt W a cap l b o ∧ l.length ≤ Rows.uptoBulk d ∧ ((∀ x, x ∈ d.weights Tryd.prog 24 → x ≤ reachBytes) → l.length ≤ 35184372087808) := by
  obtain ⟨cs, rfl, hsz⟩ := okWide_struct Tryd.underlying24 hv
  obtain ⟨c0, c1, rfl⟩ := array2 (hsz.trans cells24)
  obtain ⟨fuel, hf⟩ := h
  obtain ⟨neg, a, cap, l, b, o, rfl, rfl, h1, h2, h3⟩ := whole_cells hf
  exact ⟨neg, a, cap, l, b, o, rfl, h1, h2, h3⟩
theorem open_dyadic {H : Type} {enc : TypeId × Value → H} {W : World} {r : Reach} {b0 : Nat} {v : Value} {d : DataW H} {p : List MemPlace} (hv : Value.okWide Tryd.prog W r b0 28 v) (h : DataW.Trod enc Tryd.prog W 0 (fun _ => true) true 28 v d p) :
    ∃ (neg : Bool) (a : Option Addr) (cap : Nat) (l : List Nat) (b o : Nat) (e : Int), v = .agg #[.bool neg, .slice a l.length cap, .int .i64 e] ∧ RowAt W a cap l b o ∧ (-9223372036854775808 ≤ e ∧ e < 9223372036854775808) ∧ l.length ≤ Rows.uptoBulk d ∧ ((∀ x, x ∈ d.weights Tryd.prog 28 → x ≤ reachBytes) → l.length ≤ 35184372087808) := by
  obtain ⟨cs, rfl, hsz⟩ := okWide_struct Tryd.underlying28 hv
  obtain ⟨c0, c1, c2, rfl⟩ := array3 (hsz.trans cells28)
  obtain ⟨fuel, hf⟩ := h
  obtain ⟨y0, y1, n, hx, _, h0, h1⟩ := trod_struct2 Tryd.underlying28 hf
  simp only [Value.cells, cells24, cells3, List.drop, List.take] at h0 h1
  obtain ⟨neg, a, cap, l, b, o, rfl, rfl, g1, g2, g3⟩ := whole_cells h0
  obtain ⟨e, e1, _, hw⟩ := DataW.trod_int Tryd.underlying3 h1
  simp at e1
  subst e1
  simp only [Prod.mk.injEq] at hx
  obtain ⟨rfl, _⟩ := hx
  refine ⟨neg, a, cap, l, b, o, e, rfl, g1, ?_, ?_, ?_⟩
  · simp [Lit.wf, IntKind.min, IntKind.max, IntKind.signed, IntKind.bits] at hw; omega
  · simp only [Rows.uptoBulk, Rows.uptoBulkAll]; omega
  · intro hx
    exact g3 fun x hx' => hx x (by simp only [DataW.weights, Tryd.underlying28]; simp [DataW.weightsEach]; exact .inl hx')
theorem vrel_whole {w : World} {pl : List (Nat × Nat)} {neg : Bool} {a : Option Addr} {cap : Nat} {l : List Nat} {b o g : Nat} (h : RowAt w a cap l b o) (hg : pl[g]? = some (b, o)) : VRel [] (lay0 w pl) w (W neg ⟨0, g + 1, 0⟩ l) (.agg #[.bool neg, .slice a l.length cap]) := by
  unfold W VRel
  refine ⟨_, rfl, ?_⟩
  simp only [LRel]
  exact ⟨_, _, rfl, by simp [VRel], _, _, rfl, vrel_row h hg, rfl⟩
theorem vrel_dyadic {w : World} {pl : List (Nat × Nat)} {neg : Bool} {a : Option Addr} {cap : Nat} {l : List Nat} {b o g : Nat} (e : Int) (h : RowAt w a cap l b o) (hg : pl[g]? = some (b, o)) : VRel [] (lay0 w pl) w (D neg ⟨0, g + 1, 0⟩ l e) (.agg #[.bool neg, .slice a l.length cap, .int .i64 e]) := by
  unfold D VRel
  refine ⟨_, rfl, ?_⟩
  simp only [LRel]
  exact ⟨_, _, rfl, by simp [VRel], _, _, rfl, vrel_row h hg, _, _, rfl, by simp [VRel], rfl⟩

/-! ### the table -/
theorem mapM_get {α β : Type} {f : α → Option β} : ∀ (l : List α) (xs : List β), l.mapM f = some xs → ∀ (i : Nat) (a : α), l[i]? = some a → ∃ y, f a = some y ∧ xs[i]? = some y
  | [], xs, h, i, a, hi => by simp at hi
  | x :: t, xs, h, i, a, hi => by
    simp only [List.mapM_cons, Option.bind_eq_bind, Option.bind_eq_some_iff, Option.pure_def, Option.some.injEq] at h
    obtain ⟨y, hy, ys, hys, rfl⟩ := h
    cases i with
    | zero => simp at hi; subst hi; exact ⟨y, hy, rfl⟩
    | succ i => simp at hi ⊢; exact mapM_get t ys hys i a hi
def tabVals : List Int := [0, 1, 28, 2, 29, 14, 24, 3, 30, 22, 20, 15, 25, 17, 4, 8, 31, 27, 13, 23, 21, 19, 16, 7, 26, 12, 18, 6, 11, 5, 10, 9]
def tabData {H : Type} : DataW H := .agg (tabVals.map fun n => .lit (.int .u8 n))
theorem tab_tabs : tabs = [(0, tabVals.map fun n => Value.int .u8 n)] := by rfl
theorem tab_laid {H : Type} : (Rows.laid_math_bits_deBruijn32tab : DataW H) = tabData := by rfl
theorem tabName : Tryd.prog.globalNamed "math/bits.deBruijn32tab" = some 0 := by kernel_rfl
theorem tabType : (Tryd.prog.globals[0]?).map (·.type) = some 77 := by kernel_rfl
theorem cells77 : Tryd.prog.cellsOf 77 = 32 := by kernel_rfl
theorem cells5 : Tryd.prog.cellsOf 5 = 1 := by kernel_rfl
theorem table_of_laid {W : World} (h : laidMet Tryd.prog [("math/bits.deBruijn32tab", Rows.laid_math_bits_deBruijn32tab)] W) : ∀ b C, (b, C) ∈ tabs → ∃ el fz, W.heap[b]? = some (.cells C.toArray el fz) := by
  obtain ⟨ps, ⟨g, t, cs, fuel, p, q, hg, ht, hvar, hd, _, _⟩, _⟩ := h
  obtain rfl := Option.some.inj (tabName.symm.trans hg)
  obtain rfl := Option.some.inj (tabType.symm.trans ht)
  have hcs : cs = (tabVals.map fun n => Value.int .u8 n).toArray := by
    obtain ⟨l⟩ := cs
    cases fuel with
    | zero => simp [DataW.trod] at hd
    | succ fuel =>
      simp only [DataW.trod, Tryd.underlying77, cells77, cells5] at hd
      split at hd
      · rename_i hl
        obtain ⟨xs, hxs, hx⟩ := Option.map_eq_some_iff.1 hd
        simp only [Prod.mk.injEq] at hx
        rw [tab_laid] at hx
        have hmap : xs.map (·.1) = tabVals.map fun n => DataW.lit (.int .u8 n) := by
          have := hx.1
          simpa [tabData] using this
        simp only [List.size_toArray, Array.mk.injEq] at *
        have hlen : tabVals.length = 32 := rfl
        apply List.ext_getElem?
        intro i
        by_cases hi : i < 32
        · obtain ⟨y, hy, hyx⟩ := mapM_get _ _ hxs i i (by simp [hi])
          have hli : i < l.length := by omega
          have e1 : (l.drop (i * 1)).take 1 = [l[i]] := by
            rw [Nat.mul_one, List.drop_eq_getElem_cons hli]; rfl
          rw [e1] at hy
          obtain ⟨n, e2, e3, _⟩ := DataW.trod_int Tryd.underlying5 hy
          simp at e2
          have e4 := congrArg (fun z => z[i]?) hmap
          simp only [List.getElem?_map, hyx, Option.map_some, e3] at e4
          rw [List.getElem?_map, List.getElem?_eq_getElem hli, e2]
          cases ht : tabVals[i]? with
          | none => rw [ht] at e4; cases e4
          | some m =>
            rw [ht] at e4
            simp at e4
            simp [e4]
        · rw [List.getElem?_eq_none (by omega), List.getElem?_eq_none (by simp [hlen]; omega)]
      · cases hd
  subst hcs
  intro b C hC
  rw [tab_tabs] at hC
  simp only [List.mem_singleton, Prod.mk.injEq] at hC
  obtain ⟨rfl, rfl⟩ := hC
  unfold World.var? at hvar
  rw [tabName] at hvar
  simp only [Option.bind_some] at hvar
  split at hvar
  · rename_i cs0 el fz he
    simp only [Option.some.injEq] at hvar
    subst hvar
    exact ⟨el, fz, he⟩
  · cases hvar
/-- The settled world, but the table as it is laid. -/
noncomputable def laidWorld (os : Os) : World :=
  let w0 := World.holding Tryd.prog os ⟨#[], #[], []⟩
  { w0 with heap := w0.heap.modify 0 fun
      | .cells _ t frozen => .cells (tabVals.map fun n => Value.int .u8 n).toArray t frozen
      | o => o }
end Go.Proofs.YtaankihkejodgaaDoor

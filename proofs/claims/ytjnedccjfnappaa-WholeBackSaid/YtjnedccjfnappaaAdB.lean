/- From a row's input to a by-value call: how great what came in can be. -/
import Derived.Test.YtjnedccjfnappaaKlA
import Derived.Test.YtjnedccjfnappaaBvP
import Derived.SizedLaws
import Derived.JoinedCond
set_option linter.unusedVariables false
set_option linter.unusedSimpArgs false
namespace Go.Proofs.Ytjnedccjfnappaa
open Go.Proofs
open Go.ChangeShapes Go.WideShapes Go.ChangeAt Go.RowKit Go.Joins

theorem bulkAll_len {H : Type} : ∀ (l : List (DataW H)), l.length ≤ Rows.uptoBulkAll l
  | [] => by simp [Rows.uptoBulkAll]
  | d :: r => by
    have h : 1 ≤ Rows.uptoBulk d := by cases d <;> (try rename_i x; cases x) <;> simp [Rows.uptoBulk]
    have := bulkAll_len r
    simp [Rows.uptoBulkAll]; omega

/-- How long a slice that came in is beside what is told of its reading. -/
theorem ints_len {P : Program} {H : Type} {enc : TypeId × Value → H} {w : World} {t e : TypeId} {k : IntKind} {fuel : Nat} {a : Option Addr} {len cap : Nat} {y : DataW H × List MemPlace} (ht : P.underlying t = some (.slice e)) (he : P.underlying e = some (.int k)) (hc : P.cellsOf e = 1)
    (h : DataW.trod enc P w 0 (fun _ => true) true fuel t [.slice a len cap] = some y) : len ≤ Rows.uptoBulk y.1 ∧ ∀ m, (∀ x, x ∈ y.1.weights P t → x ≤ m) → len * P.bytesOf e ≤ m := by
  rcases open_ints ht he hc h with ⟨hcs, _⟩ | ⟨x, l, c, zs, hcs, _, hl, hm, hz, hy, hcell, hwz⟩
  · simp at hcs
    obtain ⟨rfl, rfl, rfl⟩ := hcs
    simp
  · simp at hcs
    obtain ⟨rfl, rfl, rfl⟩ := hcs
    simp at hz
    subst hy
    have hle : len = (lits (H := H) k (zs.take len)).length := by simp [lits, hz]; omega
    constructor
    · have := bulkAll_len (lits (H := H) k (zs.take len))
      simp only [Rows.uptoBulk]; omega
    · intro m hmx
      have := hmx (((lits (H := H) k (zs.take len)).length + (lits (H := H) k (zs.drop len)).length) * P.bytesOf e) (by simp [DataW.weights, ht])
      refine Nat.le_trans (Nat.mul_le_mul_right _ ?_) this
      omega

theorem bytes51 : Try.prog.bytesOf 51 = 4 := by kernel_rfl
theorem whole_len {H : Type} {enc : TypeId × Value → H} {W : World} {r : Reach} {b0 : Nat} {neg : Bool} {a : Option Addr} {len cap : Nat} {d : DataW H} {p : List MemPlace} (hv : Value.okWide Try.prog W r b0 24 (.agg #[.bool neg, .slice a len cap])) (h : DataW.Trod enc Try.prog W 0 (fun _ => true) true 24 (.agg #[.bool neg, .slice a len cap]) d p) :
    len ≤ Rows.uptoBulk d ∧ ((∀ x, x ∈ d.weights Try.prog 24 → x ≤ reachBytes) → len ≤ 35184372087808) := by
  obtain ⟨c0, c1, y0, y1, m, e, rfl, rfl, hy0, hy1⟩ := open_agg2 Try.underlying24 (by kernel_rfl) (by kernel_rfl) hv h
  simp at e
  obtain ⟨rfl, rfl⟩ := e
  have hh := ints_len Try.underlying22 Try.underlying51 (by kernel_rfl) hy1
  constructor
  · simp only [Rows.uptoBulk, Rows.uptoBulkAll]; omega
  · intro hx
    have h2 := hh.2 reachBytes fun x hx' => hx x (by simp only [DataW.weights, Try.underlying24]; simp [DataW.weightsEach]; exact .inr hx')
    rw [bytes51] at h2
    have : reachBytes = 140737488351232 := rfl
    omega

/-- A call that writes nothing that was there, from the memory that there is. -/
theorem calls_of_clean {P : Program} {f : FuncId} {args : List PV} {w : World} {pl : List (Nat × Nat)} {A : List Value} (hA : LRel [] (lay0 w pl) w args A) (h : PCall P f args (pl.length + 1) fun v _ D => v = .bool true ∧ ∀ x, x ∈ D → pl.length + 1 ≤ x) :
    Calls P f A.toArray w fun e w' => e = .returned (.bool true) ∧ Below w.heap.size w w' :=
  calls_of_pcall hA (PCall.clean (h.mono fun v n' D _ ⟨h1, h2⟩ => ⟨h2, h1, rfl⟩))
end Go.Proofs.Ytjnedccjfnappaa

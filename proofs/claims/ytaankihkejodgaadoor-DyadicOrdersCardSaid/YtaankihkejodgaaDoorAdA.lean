/- From a row's input to a by-value call: where an input's slices of 32-bit numbers lie, and what a call tells of old memory. -/
import Derived.Test.YtaankihkejodgaaDoorCtP
import Derived.Test.YtaankihkejodgaaDoorRows
import Derived.WalkKit
import Derived.ProofKit
import Derived.OpenShut
import Derived.ShutString
import Derived.ChangeOld
import Derived.Below
import Derived.Lib.SmallJoins
set_option linter.unusedVariables false
set_option linter.unusedSimpArgs false
namespace Go.Proofs.YtaankihkejodgaaDoor
open Go.Proofs
open Go.ChangeShapes Go.WideShapes Go.ChangeAt Go.RowKit Go.Joins

/-- What the walk is told of a slice of 32-bit numbers that came in. -/
structure RowAt (w : World) (a : Option Addr) (cap : Nat) (l : List Nat) (b o : Nat) : Prop where
  lim : Lim l
  len : l.length ≤ cap
  capm : cap ≤ maxLen
  row : (l = [] ∧ cap = 0) ∨ (a = some ⟨b, o, none⟩ ∧ (∃ C el fz, w.heap[b]? = some (.cells C el fz) ∧ o + cap ≤ C.size) ∧ ∀ i, (h : i < l.length) → w.cell? ⟨b, o + i, none⟩ = some (.int .u32 (l[i] : Nat)))

theorem add_flat (b o i : Nat) : (⟨b, o, none⟩ : Addr).add i = ⟨b, o + i, none⟩ := by
  unfold Addr.add
  by_cases h : i = 0
  · subst h; simp
  · simp [h]
theorem cell_spot {w : World} {x : Addr} {v : Value} (h : w.cell? x = some v) : x.spot = none ∧ ∃ C el fz, w.heap[x.block]? = some (.cells C el fz) ∧ x.off < C.size := by
  unfold World.cell? at h
  split at h
  · rename_i C el fz hc
    split at h
    · cases h
    · rename_i hs
      refine ⟨by simpa using hs, C, el, fz, hc, ?_⟩
      exact (Array.getElem?_eq_some_iff.1 h).1
  · cases h

theorem row_of_slice {P : Program} {H : Type} {enc : TypeId × Value → H} {w : World} {n t e : TypeId} {fuel : Nat} {a : Option Addr} {len cap : Nat} {y : DataW H × List MemPlace} (ht : P.underlying t = some (.slice e)) (he : P.underlying e = some (.int .u32)) (hc : P.cellsOf e = 1)
    (h : DataW.trod enc P w 0 (fun _ => true) true fuel t [.slice a len cap] = some y) : ∃ l b o, len = l.length ∧ RowAt w a cap l b o := by
  rcases open_ints ht he hc h with ⟨hcs, _⟩ | ⟨x, l, c, zs, hcs, _, hl, hm, hz, _, hcell, hwz⟩
  · simp at hcs
    obtain ⟨rfl, rfl, rfl⟩ := hcs
    exact ⟨[], 0, 0, rfl, .nil, by simp, by simp [maxLen], .inl ⟨rfl, rfl⟩⟩
  · simp at hcs
    obtain ⟨rfl, rfl, rfl⟩ := hcs
    simp at hz
    have hnn : ∀ z ∈ zs, 0 ≤ z ∧ z < 4294967296 := fun z hz => by
      have := hwz z hz
      simp [Lit.wf, IntKind.min, IntKind.max, IntKind.signed, IntKind.bits] at this
      omega
    refine ⟨(zs.take len).map Int.toNat, x.block, x.off, by simp [hz]; omega, ?_, by simp; omega, hm, ?_⟩
    · intro q hq
      obtain ⟨z, hz', rfl⟩ := List.mem_map.1 hq
      have := hnn z (List.mem_of_mem_take hz')
      omega
    · by_cases hcap : cap = 0
      · left
        subst hcap
        have : zs = [] := List.length_eq_zero_iff.1 hz
        simp [this]
      · right
        have h0 := hcell 0 (by omega)
        have hl := hcell (cap - 1) (by omega)
        have hs0 := cell_spot (by simpa [Addr.add] using h0)
        obtain ⟨xb, xo, xs⟩ := x
        simp only at hs0
        obtain ⟨rfl, C, el, fz, hC, hlt⟩ := hs0
        rw [add_flat] at hl
        obtain ⟨_, C', el', fz', hC', hlt'⟩ := cell_spot hl
        have hC2 : w.heap[xb]? = some (.cells C el fz) := hC
        have hC3 : w.heap[xb]? = some (.cells C' el' fz') := hC'
        have hlt2 : xo + (cap - 1) < C'.size := hlt'
        rw [hC2] at hC3
        cases hC3
        refine ⟨rfl, ⟨C, el, fz, hC2, show xo + cap ≤ C.size by omega⟩, ?_⟩
        intro i hi
        simp at hi
        have := hcell i (by omega)
        rw [add_flat] at this
        rw [this]
        have hg : zs.getD i 0 = zs[i] := by simp [List.getD, show i < zs.length by omega]
        have hn := hnn zs[i] (List.getElem_mem _)
        rw [hg]
        simp
        omega

/-- The memory at a call's begin: all that is there may be read alone; the places are those of the arguments' slices. -/
def lay0 (w : World) (pl : List (Nat × Nat)) : Lay :=
  { fam := fun b => if b < w.heap.size then some 0 else none, lim := fun b => match w.heap[b]? with | some (.cells C _ _) => C.size | _ => 0, pl := fun g => pl.getD (g - 1) (0, 0), nx := pl.length + 1 }
theorem lay0_base (w : World) (pl : List (Nat × Nat)) (htab : ∀ b C, (b, C) ∈ tabs → ∃ el fz, w.heap[b]? = some (.cells C.toArray el fz)) : Base (lay0 w pl) w := by
  refine ⟨by simp [lay0], ?_, ?_, fun b C hC => ?_⟩
  rotate_left 2
  · obtain ⟨el, fz, h⟩ := htab b C hC
    have hb : b < w.heap.size := (Array.getElem?_eq_some_iff.1 h).1
    exact ⟨⟨el, fz, h⟩, by simp [lay0, hb]⟩
  · intro b f h; simp [lay0] at h ⊢; omega
  · intro b f h h0; simp [lay0] at h; omega

theorem erel_u32 (L : Lay) (w : World) (b : Nat) : ∀ (l : List Nat) (o : Nat), (∀ i, (h : i < l.length) → w.cell? ⟨b, o + i, none⟩ = some (.int .u32 (l[i] : Nat))) → ERel L w 1 b (u32s l) o
  | [], o, h => by simp [u32s, ERel]
  | x :: t, o, h => by
    have h0 := h 0 (by simp)
    simp at h0
    have : u32s (x :: t) = PV.int .u32 (x : Int) :: u32s t := rfl
    rw [this, ERel_cell _ _ _ _ _ (fun cs e => by cases e)]
    refine ⟨rfl, ⟨_, h0, rfl, by simp [VRel]⟩, erel_u32 L w b t (o + 1) fun i hi => ?_⟩
    have := h (i + 1) (by simp; omega)
    simp at this
    rw [show o + 1 + i = o + (i + 1) by omega]
    exact this

theorem vrel_row {w : World} {pl : List (Nat × Nat)} {a : Option Addr} {cap : Nat} {l : List Nat} {b o g : Nat} (h : RowAt w a cap l b o) (hg : pl[g]? = some (b, o)) : VRel [] (lay0 w pl) w (.sl ⟨0, g + 1, 0⟩ 1 (u32s l)) (.slice a l.length cap) := by
  unfold VRel
  refine ⟨a, cap, by simp, ?_⟩
  rcases h.row with ⟨h1, h2⟩ | ⟨h1, ⟨C, el, fz, h2, h3⟩, h4⟩
  · exact .inl ⟨by simp [h1], h2⟩
  · refine .inr ⟨b, o, h1, ?_, erel_u32 _ _ _ _ _ h4⟩
    have hb : b < w.heap.size := (Array.getElem?_eq_some_iff.1 h2).1
    have hlen := h.len
    have hgl : g < pl.length := (List.getElem?_eq_some_iff.1 hg).1
    refine ⟨by simp [lay0, hb], by simp, by simp [lay0]; omega, ⟨o, by simp [lay0, hg], by simp⟩, ?_, by simpa using h.len, C, el, fz, h2, by simpa using h3⟩
    simp [lay0, h2]; omega

/-- A call by value, from the memory that there is. -/
theorem calls_of_pcall {P : Program} {f : FuncId} {args : List PV} {w : World} {pl : List (Nat × Nat)} {A : List Value} (htab : ∀ b C, (b, C) ∈ tabs → ∃ el fz, w.heap[b]? = some (.cells C.toArray el fz)) (hA : LRel [] (lay0 w pl) w args A) (h : PCall P f args (pl.length + 1) fun v _ D => v = .bool true ∧ ∀ x, x ∈ D → pl.length + 1 ≤ x) :
    Calls P f A.toArray w fun e w' => e = .returned (.bool true) ∧ Below w.heap.size w w' := by
  obtain ⟨v, n', D, hg, hn, rfl, rfl⟩ := PCall.clean (Q := fun v _ D => v = .bool true ∧ D = []) (h.mono fun v n' D _ ⟨h1, h2⟩ => ⟨h2, h1, rfl⟩)
  refine (hg (lay0 w pl) w A rfl (lay0_base w pl htab) hA).mono fun e w' ⟨L', V, he, hv, _, _, hgua⟩ => ?_
  simp only [VRel] at hv
  subst hv
  refine ⟨he, hgua.os, hgua.tape, hgua.output, hgua.size, fun k hk => hgua.old k hk (fun f hf => ?_) (by simp)⟩
  simp [lay0] at hf
  simp; omega
end Go.Proofs.YtaankihkejodgaaDoor

/- From a row's input to a by-value call: what is read of an input of numbers, structs and slices, one within another, by value; for every program. -/
import Derived.Test.YtphndngifjgeoaaGreatDoorBvP
import Derived.Test.YtphndngifjgeoaaGreatDoorRows
import Derived.WalkKit
import Derived.ProofKit
import Derived.OpenShut
import Derived.ShutString
import Derived.ChangeOld
import Derived.Below
import Derived.SizedLaws
import Derived.Deep.Slices
import Derived.Lib.SmallJoins
set_option linter.unusedVariables false
set_option linter.unusedSimpArgs false
namespace Go.Proofs.YtphndngifjgeoaaGreatDoor
open Go.Proofs
open Go.ChangeShapes Go.WideShapes Go.ChangeAt Go.RowKit Go.Joins

theorem addr_flat (b o i : Nat) : (⟨b, o, none⟩ : Addr).add i = ⟨b, o + i, none⟩ := by
  unfold Addr.add
  by_cases h : i = 0
  · subst h; simp
  · simp [h]
theorem cell_spot {w : World} {x : Addr} {v : Value} (h : w.cell? x = some v) : x.spot = none ∧ ∃ C el fz, w.heap[x.block]? = some (.cells C el fz) ∧ x.off < C.size := by
  unfold World.cell? at h
  split at h
  · rename_i C el fz hc
    split at h
    · cases h
    · rename_i hs
      refine ⟨by simpa using hs, C, el, fz, hc, ?_⟩
      exact (Array.getElem?_eq_some_iff.1 h).1
  · cases h

/-- The memory at a call's begin: all that is there may be read alone; each block's version is named after it. -/
def lay1 (w : World) : Lay :=
  { fam := fun b => match w.heap[b]? with | some (.cells _ _ _) => some 0 | _ => none, lim := fun b => match w.heap[b]? with | some (.cells C _ _) => C.size | _ => 0, pl := fun g => (g - 1, 0), nx := w.heap.size + 1, mp := fun _ => none }
theorem lay1_base (w : World) (htab : ∀ b C, (b, C) ∈ tabs → ∃ el fz, w.heap[b]? = some (.cells C.toArray el fz)) : Base (lay1 w) w := by
  refine ⟨by simp [lay1], ?_, ?_, fun b C hC => ?_, ?_⟩
  · intro b f h
    simp only [lay1] at h ⊢
    split at h
    · rename_i he
      have hb : b < w.heap.size := (Array.getElem?_eq_some_iff.1 he).1
      simp at h
      exact ⟨by omega, hb⟩
    · cases h
  · intro b f h h0
    simp only [lay1] at h
    split at h
    · simp at h; omega
    · cases h
  · obtain ⟨el, fz, h⟩ := htab b C hC
    exact ⟨⟨el, fz, h⟩, by simp [lay1, h]⟩
  · intro b I h; simp [lay1] at h

section
variable {P : Program} {H : Type} {enc : TypeId × Value → H} {w : World}
/-- What is read of a type is a pure value of which G holds. -/
def Opens (enc : TypeId × Value → H) (P : Program) (w : World) (t : TypeId) (z m : Nat) (G : PV → Prop) : Prop :=
  ∀ fuel cs y, DataW.trod enc P w 0 (fun _ => true) true fuel t cs = some y → (∀ x, x ∈ y.1.weights P t → x ≤ m) → ∃ p : PV, G p ∧ p.cells.length = z ∧ LRel [] (lay1 w) w p.cells cs ∧ ∀ v ∈ cs, v.oneCell' = true
theorem Opens.mono {t : TypeId} {z m : Nat} {G G' : PV → Prop} (h : Opens enc P w t z m G) (hg : ∀ p, G p → G' p) : Opens enc P w t z m G' := fun fuel cs y hy hw =>
  let ⟨p, g, r⟩ := h fuel cs y hy hw; ⟨p, hg p g, r⟩
theorem opens_int {t : TypeId} {k : IntKind} (m : Nat) (ht : P.underlying t = some (.int k)) : Opens enc P w t 1 m fun p => ∃ n : Int, p = .int k n ∧ (Lit.int k n).wf = true := fun fuel cs y hy _ => by
  obtain ⟨n, rfl, _, hw⟩ := DataW.trod_int ht hy
  exact ⟨.int k n, ⟨n, rfl, hw⟩, rfl, by simp [LRel, VRel], by intro v hv; simp at hv; subst hv; rfl⟩
theorem opens_bool {t : TypeId} (m : Nat) (ht : P.underlying t = some .bool) : Opens enc P w t 1 m fun p => ∃ n : Bool, p = .bool n := fun fuel cs y hy _ => by
  obtain ⟨n, rfl, _⟩ := DataW.trod_bool ht hy
  exact ⟨.bool n, ⟨n, rfl⟩, rfl, by simp [LRel, VRel], by intro v hv; simp at hv; subst hv; rfl⟩
theorem opens_struct2 {t : TypeId} {f0 f1 : Field} {z0 z1 m : Nat} {G0 G1 : PV → Prop} (ht : P.underlying t = some (.struct #[f0, f1])) (o0 : f0.offset = 0) (o1 : f1.offset = z0) (c0 : P.cellsOf f0.type = z0) (c1 : P.cellsOf f1.type = z1) (c : P.cellsOf t = z0 + z1)
    (h0 : Opens enc P w f0.type z0 m G0) (h1 : Opens enc P w f1.type z1 m G1) : Opens enc P w t (z0 + z1) m fun p => ∃ p0 p1, p = .agg (p0.cells ++ p1.cells) ∧ G0 p0 ∧ G1 p1 := fun fuel cs y hy hw => by
  obtain ⟨y0, y1, n, hx, hl, t0, t1⟩ := trod_struct2 ht hy
  subst hx
  rw [o0, c0, List.drop_zero] at t0
  rw [o1, c1] at t1
  obtain ⟨p0, g0, l0, r0, s0⟩ := h0 n _ _ t0 fun x hx => hw x (by simp [DataW.weights, ht, DataW.weightsEach]; exact .inl hx)
  obtain ⟨p1, g1, l1, r1, s1⟩ := h1 n _ _ t1 fun x hx => hw x (by simp [DataW.weights, ht, DataW.weightsEach]; exact .inr hx)
  have e : cs = cs.take z0 ++ (cs.drop z0).take z1 := by
    rw [List.take_of_length_le (l := cs.drop z0) (by simp; omega), List.take_append_drop]
  refine ⟨.agg (p0.cells ++ p1.cells), ⟨p0, p1, rfl, g0, g1⟩, by rw [cells_agg, List.length_append, l0, l1], ?_, ?_⟩
  · rw [e]; exact r0.append r1
  · intro v hv
    rw [e] at hv
    rcases List.mem_append.1 hv with h | h
    · exact s0 v h
    · exact s1 v h
theorem cells_at {b o z : Nat} {C : List Value} (h : w.cells? 0 ⟨b, o, none⟩ z = some C) : C.length = z ∧ ∀ j, j < z → w.cell? ⟨b, o + j, none⟩ = C[j]? := by
  obtain ⟨_, h1, h2⟩ := World.cells?_some h
  exact ⟨h1, fun j hj => by rw [← addr_flat]; exact h2 j hj⟩
theorem opens_slice {t e : TypeId} {z m : Nat} {G : PV → Prop} (ht : P.underlying t = some (.slice e)) (hz : P.cellsOf e = z) (hz0 : 0 < z) (he : Opens enc P w e z m G) :
    Opens enc P w t 1 m fun p => ∃ (i : Sid) (es : List PV), p = .sl i z es ∧ i.f = 0 ∧ i.g ≤ w.heap.size ∧ es.length * P.bytesOf e ≤ m ∧ es.length ≤ maxLen ∧ ∀ e ∈ es, G e := fun fuel cs y hy hw => by
  rcases Deep.open_slice ht hy with ⟨rfl, rfl⟩ | ⟨a, len, cap, q, n, D, Pl, rfl, hb, hl, hm, hq, rfl, hx⟩
  · refine ⟨.sl ⟨0, 0, 0⟩ z [], ⟨_, [], rfl, rfl, Nat.zero_le _, by simp, by simp, by simp⟩, rfl, ?_, by intro v hv; simp at hv; subst hv; rfl⟩
    simp only [PV.cells, LRel]
    exact ⟨_, _, rfl, by unfold VRel; exact ⟨none, 0, rfl, .inl ⟨rfl, rfl⟩⟩, rfl⟩
  · simp at hq
    subst hq
    rw [hz] at hx
    have hwl : ∀ i, i < len → ∀ x, x ∈ (D i).weights P e → x ≤ m := fun i hi x hxx => hw x (by
      simp only [DataW.weights, ht]
      refine List.mem_cons_of_mem _ (List.mem_append_left _ ?_)
      have : ∀ (l : List Nat), i ∈ l → x ∈ DataW.weightsAll P e (l.map D) := by
        intro l hl
        induction l with
        | nil => simp at hl
        | cons y l ih =>
          simp only [List.map_cons, DataW.weightsAll, List.mem_append]
          rcases List.mem_cons.1 hl with rfl | h
          · exact .inl hxx
          · exact .inr (ih h)
      exact this _ (List.mem_range.2 hi))
    have hwt : len * P.bytesOf e ≤ m := by
      refine Nat.le_trans ?_ (hw ((((List.range len).map D).length + ((List.range (q - len)).map fun j => D (len + j)).length) * P.bytesOf e) (by simp only [DataW.weights, ht]; exact List.mem_cons_self))
      exact Nat.mul_le_mul_right _ (by simp)
    by_cases hc : q = 0
    · subst hc
      have : len = 0 := by omega
      subst this
      refine ⟨.sl ⟨0, 0, 0⟩ z [], ⟨_, [], rfl, rfl, Nat.zero_le _, by simp, by simp, by simp⟩, rfl, ?_, by intro v hv; simp at hv; subst hv; rfl⟩
      simp only [PV.cells, LRel]
      exact ⟨_, _, rfl, by unfold VRel; exact ⟨some a, 0, rfl, .inl ⟨rfl, rfl⟩⟩, rfl⟩
    · obtain ⟨xb, xo, xs⟩ := a
      have sp : xs = none := by
        obtain ⟨C, h1, _⟩ := hx 0 (by omega)
        obtain ⟨_, h2, h3⟩ := World.cells?_some h1
        have h4 := h3 0 hz0
        rw [List.getElem?_eq_getElem (by omega)] at h4
        have := (cell_spot h4).1
        simpa [Addr.add] using this
      subst sp
      have hx' : ∀ i, i < q → ∃ C, C.length = z ∧ (∀ j, j < z → w.cell? ⟨xb, xo + i * z + j, none⟩ = C[j]?) ∧ DataW.trod enc P w 0 (fun _ => true) true n e C = some (D i, Pl i) := fun i hi => by
        obtain ⟨C, h1, h2⟩ := hx i hi
        rw [addr_flat] at h1
        obtain ⟨h3, h4⟩ := cells_at h1
        exact ⟨C, h3, h4, h2⟩
      obtain ⟨C0, el, fz, hC0, hsz⟩ : ∃ C0 el fz, w.heap[xb]? = some (.cells C0 el fz) ∧ xo + q * z ≤ C0.size := by
        obtain ⟨C, h1, h2, _⟩ := hx' (q - 1) (by omega)
        have h4 := h2 (z - 1) (by omega)
        rw [List.getElem?_eq_getElem (by omega)] at h4
        obtain ⟨_, C0, el, fz, h5, h6⟩ := cell_spot h4
        refine ⟨C0, el, fz, h5, ?_⟩
        simp only at h6
        have : q * z = (q - 1) * z + z := by
          have := Nat.succ_mul (q - 1) z
          rwa [show (q - 1).succ = q by omega] at this
        omega
      have hxb : xb < w.heap.size := (Array.getElem?_eq_some_iff.1 hC0).1
      obtain ⟨p, hp⟩ := Deep.choose_lt (n := len) (p := fun i (v : PV) => G v ∧ v.cells.length = z ∧ KRel (lay1 w) w xb v.cells (xo + i * z)) fun i hi => by
        obtain ⟨C, h1, h2, h3⟩ := hx' i (by omega)
        obtain ⟨v, g, l, r, s⟩ := he n C _ h3 (hwl i hi)
        refine ⟨v, g, l, KRel.of_get fun j c hj => ?_⟩
        obtain ⟨u, hu, hr⟩ := r.get j c hj
        have hjz : j < z := by have := (List.getElem?_eq_some_iff.1 hj).1; omega
        exact ⟨u, by rw [h2 j hjz]; exact hu, s u (List.mem_of_getElem? hu), hr⟩
      refine ⟨.sl ⟨0, xb + 1, xo⟩ z ((List.range len).map p), ⟨_, _, rfl, rfl, hxb, by simpa using hwt, by simp; omega, ?_⟩, rfl, ?_, by intro v hv; simp at hv; subst hv; rfl⟩
      · intro v hv
        obtain ⟨i, hi, rfl⟩ := List.mem_map.1 hv
        exact (hp i (List.mem_range.1 hi)).1
      · simp only [PV.cells, LRel]
        refine ⟨_, _, rfl, ?_, rfl⟩
        unfold VRel
        refine ⟨some ⟨xb, xo, none⟩, q, by simp, .inr ⟨xb, xo, rfl, ?_, ERel.of_get fun j v hj => ?_⟩⟩
        · refine ⟨by simp [lay1, hC0], by simp, by simp [lay1]; omega, ⟨0, by simp [lay1], by simp⟩, ?_, by simpa using hl, C0, el, fz, hC0, hsz⟩
          simp only [lay1, hC0, List.length_map, List.length_range]
          have := Nat.mul_le_mul_right z hl
          omega
        · have hjl : j < len := by have := (List.getElem?_eq_some_iff.1 hj).1; simpa using this
          simp [hjl] at hj
          subst hj
          exact (hp j hjl).2
/-- A call by value, from the memory that there is. -/
theorem calls_of_pcall1 {f : FuncId} {args : List PV} {A : List Value} (htab : ∀ b C, (b, C) ∈ tabs → ∃ el fz, w.heap[b]? = some (.cells C.toArray el fz)) (hA : LRel [] (lay1 w) w args A) (h : PCall P f args (w.heap.size + 1) fun v _ D => v = .bool true ∧ ∀ x, x ∈ D → w.heap.size + 1 ≤ x) :
    Calls P f A.toArray w fun e w' => e = .returned (.bool true) ∧ Below w.heap.size w w' := by
  obtain ⟨v, n', D, hg, hn, rfl, rfl⟩ := PCall.clean (Q := fun v _ D => v = .bool true ∧ D = []) (h.mono fun v n' D _ ⟨h1, h2⟩ => ⟨h2, h1, rfl⟩)
  refine (hg (lay1 w) w A rfl (lay1_base w htab) hA).mono fun e w' ⟨L', V, he, hv, _, _, hgua⟩ => ?_
  simp only [VRel] at hv
  subst hv
  refine ⟨he, hgua.os, hgua.tape, hgua.output, hgua.size, fun k hk => hgua.old k hk (fun f hf => ?_) (by simp) (by simp [lay1])⟩
  simp only [lay1] at hf
  split at hf
  · simp at hf; subst hf; simp
  · cases hf
end
end Go.Proofs.YtphndngifjgeoaaGreatDoor

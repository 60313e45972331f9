/- Rows of whole numbers and lists of places that come in, by value; the program's own facts. -/
import Derived.Test.YtcdkgeeookcoeaaAdA
import Derived.Test.YtcdkgeeookcoeaaExN
set_option linter.unusedVariables false
set_option linter.unusedSimpArgs false
namespace Go.Proofs.Ytcdkgeeookcoeaa
open Go.Proofs
open Go.ChangeShapes Go.WideShapes Go.ChangeAt Go.RowKit Go.Joins

theorem own : ownKnob Try.prog.godebug = none := by kernel_rfl
theorem laidOut : laidOutB Try.prog = true := by kernel_rfl
theorem tab_none {W : World} : ∀ b C, (b, C) ∈ tabs → ∃ el fz, W.heap[b]? = some (.cells C.toArray el fz) := fun b C h => by simp [tabs] at h
section
variable {H : Type} {enc : TypeId × Value → H} {w : World}
theorem map_of {α : Type} {f : α → PV} {R : α → Prop} : ∀ {es : List PV}, (∀ p, p ∈ es → ∃ x, p = f x ∧ R x) → ∃ l : List α, es = l.map f ∧ ∀ x, x ∈ l → R x
  | [], _ => ⟨[], rfl, by simp⟩
  | p :: es, h => by
    obtain ⟨x, rfl, hx⟩ := h p (by simp)
    obtain ⟨l, rfl, hl⟩ := map_of (f := f) (R := R) (es := es) fun q hq => h q (by simp [hq])
    exact ⟨x :: l, rfl, fun y hy => by rcases List.mem_cons.1 hy with rfl | e; exact hx; exact hl y e⟩
theorem opens_limbs (m : Nat) : Opens enc Try.prog w 28 1 m fun p => ∃ (i : Sid) (l : List Nat), p = .sl i 1 (u32s l) ∧ i.f = 0 ∧ l.length * 4 ≤ m ∧ Lim l :=
  (opens_slice Try.underlying28 (z := 1) (by kernel_rfl) (by omega) (opens_int (k := .u32) m Try.underlying57)).mono fun p ⟨i, es, h1, h2, _, h3, _, h4⟩ => by
    obtain ⟨l, rfl, hl⟩ := map_of (f := fun (x : Nat) => PV.int .u32 (x : Int)) (R := fun x => x < 4294967296) (es := es) fun q hq => by
      obtain ⟨z, rfl, hz⟩ := h4 q hq
      have : 0 ≤ z ∧ z < 4294967296 := by simp [Lit.wf, IntKind.min, IntKind.max, IntKind.signed, IntKind.bits] at hz; omega
      exact ⟨z.toNat, by rw [show ((z.toNat : Nat) : Int) = z by omega], by omega⟩
    refine ⟨i, l, h1, h2, ?_, fun x hx => hl x hx⟩
    have : Try.prog.bytesOf 57 = 4 := by kernel_rfl
    rw [this] at h3; simpa using h3
theorem opens_ent (m : Nat) : Opens enc Try.prog w 30 2 m fun p => ∃ e : Ent, p = e.pv ∧ e.i.f = 0 ∧ e.l.length * 4 ≤ m ∧ Lim e.l :=
  (opens_struct2 (z0 := 1) (z1 := 1) Try.underlying30 rfl rfl (by kernel_rfl) (by kernel_rfl) (by kernel_rfl) (opens_bool m Try.underlying4) (opens_limbs m)).mono fun p ⟨p0, p1, h, ⟨b, hb⟩, i, l, h1, h2, h3, h4⟩ => by
    subst hb; subst h1
    exact ⟨⟨b, i, l⟩, by rw [h]; rfl, h2, h3, h4⟩
theorem opens_rw (m : Nat) : Opens enc Try.prog w 33 1 m fun p => ∃ r : Rw, p = r.pv ∧ r.i.f = 0 ∧ r.es.length * 32 ≤ m ∧ ∀ e, e ∈ r.es → e.i.f = 0 ∧ e.l.length * 4 ≤ m ∧ Lim e.l :=
  (opens_slice Try.underlying33 (z := 2) (by kernel_rfl) (by omega) (opens_ent m)).mono fun p ⟨i, es, h1, h2, _, h3, _, h4⟩ => by
    obtain ⟨l, rfl, hl⟩ := map_of (f := Ent.pv) h4
    refine ⟨⟨i, l⟩, by rw [h1]; rfl, h2, ?_, hl⟩
    have : Try.prog.bytesOf 30 = 32 := by kernel_rfl
    rw [this] at h3; simpa using h3
theorem opens_rows (m : Nat) : Opens enc Try.prog w 22 1 m fun p => ∃ (i : Sid) (M : List Rw), p = .sl i 1 (M.map Rw.pv) ∧ i.f = 0 ∧ M.length * 24 ≤ m ∧ ∀ r, r ∈ M → r.i.f = 0 ∧ r.es.length * 32 ≤ m ∧ ∀ e, e ∈ r.es → e.i.f = 0 ∧ e.l.length * 4 ≤ m ∧ Lim e.l :=
  (opens_slice Try.underlying22 (z := 1) (by kernel_rfl) (by omega) (opens_rw m)).mono fun p ⟨i, es, h1, h2, _, h3, _, h4⟩ => by
    obtain ⟨M, rfl, hl⟩ := map_of (f := Rw.pv) h4
    refine ⟨i, M, h1, h2, ?_, hl⟩
    have : Try.prog.bytesOf 33 = 24 := by kernel_rfl
    rw [this] at h3; simpa using h3
theorem opens_places (m : Nat) : Opens enc Try.prog w 35 1 m fun p => ∃ (i : Sid) (l : List Int), p = .sl i 1 (ints l) ∧ i.f = 0 ∧ l.length * 8 ≤ m ∧ ∀ x, x ∈ l → -9223372036854775808 ≤ x ∧ x < 9223372036854775808 :=
  (opens_slice Try.underlying35 (z := 1) (by kernel_rfl) (by omega) (opens_int (k := .i64) m Try.underlying3)).mono fun p ⟨i, es, h1, h2, _, h3, _, h4⟩ => by
    obtain ⟨l, rfl, hl⟩ := map_of (f := fun (x : Int) => PV.int .i64 x) (R := fun x => -9223372036854775808 ≤ x ∧ x < 9223372036854775808) (es := es) fun q hq => by
      obtain ⟨z, rfl, hz⟩ := h4 q hq
      exact ⟨z, rfl, by simp [Lit.wf, IntKind.min, IntKind.max, IntKind.signed, IntKind.bits] at hz; omega⟩
    refine ⟨i, l, h1, h2, ?_, hl⟩
    have : Try.prog.bytesOf 3 = 8 := by kernel_rfl
    rw [this] at h3; simpa using h3
def i32s (l : List Int) : List PV := l.map fun x => .int .i32 x
theorem opens_times (m : Nat) : Opens enc Try.prog w 45 1 m fun p => ∃ (i : Sid) (l : List Int), p = .sl i 1 (i32s l) ∧ i.f = 0 ∧ l.length * 4 ≤ m ∧ ∀ x, x ∈ l → -2147483648 ≤ x ∧ x < 2147483648 :=
  (opens_slice Try.underlying45 (z := 1) (by kernel_rfl) (by omega) (opens_int (k := .i32) m Try.underlying21)).mono fun p ⟨i, es, h1, h2, _, h3, _, h4⟩ => by
    obtain ⟨l, rfl, hl⟩ := map_of (f := fun (x : Int) => PV.int .i32 x) (R := fun x => -2147483648 ≤ x ∧ x < 2147483648) (es := es) fun q hq => by
      obtain ⟨z, rfl, hz⟩ := h4 q hq
      exact ⟨z, rfl, by simp [Lit.wf, IntKind.min, IntKind.max, IntKind.signed, IntKind.bits] at hz; omega⟩
    refine ⟨i, l, h1, h2, ?_, hl⟩
    have : Try.prog.bytesOf 21 = 4 := by kernel_rfl
    rw [this] at h3; simpa using h3
/-- A slice that came in, by value. -/
theorem open_of {t e : TypeId} {G : PV → Prop} (ht : Try.prog.underlying t = some (.slice e)) (ho : Opens enc Try.prog w t 1 reachBytes G) (hc : ∀ p, G p → p.cells = [p]) {r : Reach} {b0 : Nat} {v : Value} {d : DataW H} {ps : List MemPlace} (hv : Value.okWide Try.prog w r b0 t v) (h : DataW.Trod enc Try.prog w 0 (fun _ => true) true t v d ps) (hk : ∀ x, x ∈ d.weights Try.prog t → x ≤ reachBytes) :
    ∃ p, G p ∧ VRel [] (lay1 w) w p v := by
  obtain ⟨a, len, cap, rfl⟩ := okWide_slice ht hv
  obtain ⟨fuel, hf⟩ := h
  obtain ⟨p, g, l, hr, _⟩ := ho fuel _ _ hf hk
  rw [hc p g] at hr
  refine ⟨p, g, ?_⟩
  unfold LRel at hr
  obtain ⟨u, us, e1, h1, _⟩ := hr
  have : Value.slice a len cap = u := by
    have e2 : (Value.slice a len cap).cells.toList = [Value.slice a len cap] := rfl
    rw [e2] at e1; exact (List.cons.inj e1).1
  rw [this]; exact h1
theorem open_rows {r : Reach} {b0 : Nat} {v : Value} {d : DataW H} {ps : List MemPlace} (hv : Value.okWide Try.prog w r b0 22 v) (h : DataW.Trod enc Try.prog w 0 (fun _ => true) true 22 v d ps) (hk : ∀ x, x ∈ d.weights Try.prog 22 → x ≤ reachBytes) :
    ∃ (i : Sid) (M : List Rw), i.f = 0 ∧ Fits M ∧ Sids 1 M ∧ VRel [] (lay1 w) w (.sl i 1 (M.map Rw.pv)) v := by
  obtain ⟨p, ⟨i, M, rfl, h1, h2, h3⟩, hr⟩ := open_of Try.underlying22 (opens_rows reachBytes) (fun p ⟨i, M, h, _⟩ => by rw [h]; rfl) hv h hk
  have e : reachBytes = 140737488351232 := rfl
  exact ⟨i, M, h1, ⟨by omega, fun r hr => ⟨by have := (h3 r hr).2.1; omega, fun x hx => ⟨by have := ((h3 r hr).2.2 x hx).2.1; omega, ((h3 r hr).2.2 x hx).2.2⟩⟩⟩, fun r hr => ⟨by have := (h3 r hr).1; omega, fun x hx => by have := ((h3 r hr).2.2 x hx).1; omega⟩, hr⟩
theorem open_places {r : Reach} {b0 : Nat} {v : Value} {d : DataW H} {ps : List MemPlace} (hv : Value.okWide Try.prog w r b0 35 v) (h : DataW.Trod enc Try.prog w 0 (fun _ => true) true 35 v d ps) (hk : ∀ x, x ∈ d.weights Try.prog 35 → x ≤ reachBytes) :
    ∃ (i : Sid) (l : List Int), i.f = 0 ∧ l.length < 35184372088800 ∧ (∀ x, x ∈ l → -9223372036854775808 ≤ x ∧ x < 9223372036854775808) ∧ VRel [] (lay1 w) w (.sl i 1 (ints l)) v := by
  obtain ⟨p, ⟨i, l, rfl, h1, h2, h3⟩, hr⟩ := open_of Try.underlying35 (opens_places reachBytes) (fun p ⟨i, M, h, _⟩ => by rw [h]; rfl) hv h hk
  have e : reachBytes = 140737488351232 := rfl
  exact ⟨i, l, h1, by omega, h3, hr⟩
theorem open_times {r : Reach} {b0 : Nat} {v : Value} {d : DataW H} {ps : List MemPlace} (hv : Value.okWide Try.prog w r b0 45 v) (h : DataW.Trod enc Try.prog w 0 (fun _ => true) true 45 v d ps) (hk : ∀ x, x ∈ d.weights Try.prog 45 → x ≤ reachBytes) :
    ∃ (i : Sid) (l : List Int), i.f = 0 ∧ l.length < 35184372088800 ∧ (∀ x, x ∈ l → -2147483648 ≤ x ∧ x < 2147483648) ∧ VRel [] (lay1 w) w (.sl i 1 (i32s l)) v := by
  obtain ⟨p, ⟨i, l, rfl, h1, h2, h3⟩, hr⟩ := open_of Try.underlying45 (opens_times reachBytes) (fun p ⟨i, M, h, _⟩ => by rw [h]; rfl) hv h hk
  have e : reachBytes = 140737488351232 := rfl
  exact ⟨i, l, h1, by omega, h3, hr⟩
end
end Go.Proofs.Ytcdkgeeookcoeaa

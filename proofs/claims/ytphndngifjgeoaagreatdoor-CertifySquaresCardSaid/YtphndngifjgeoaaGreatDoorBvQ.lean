/- The by-value logic, part Q: maps whose keys are two numbers, and whose entries keep to what they were made under; for every program. -/
import Derived.Test.YtphndngifjgeoaaGreatDoorBvH
import Derived.MapKept
set_option linter.unusedVariables false
set_option linter.unusedSimpArgs false
namespace Go.Proofs.YtphndngifjgeoaaGreatDoor
section
variable {P : Program} {bm : List Nat} {L : Lay} {s : St} {a : Act} {w : World}

theorem run_checkKey2 {kt e : TypeId} {k : IntKind} (hk : P.underlying kt = some (.array 2 e)) (hz : tsize P e = some 1) (ha : tagg P e = some false) (he : P.underlying e = some (.int k)) (em : Bool) (n : Nat) (p q : Int) (w : World) : (Instr.checkKey em (n + 2) kt (.agg #[.int .i64 p, .int .i64 q])).run P w = .ok () w := by
  have h1 : ∀ x : Int, (Instr.checkKey em (n + 1) e (.int .i64 x)).run P w = .ok () w := fun x => by
    unfold Instr.checkKey; simp [run_underlying he]
  unfold Instr.checkKey
  simp [run_underlying hk, Std.Legacy.Range.forIn_eq_forIn_range', Std.Legacy.Range.size, List.range'_succ, run_sizeOf hz, part, run_isAgg ha, h1]

theorem run_equal2 {kt e : TypeId} {k : IntKind} (hk : P.underlying kt = some (.array 2 e)) (hz : tsize P e = some 1) (ha : tagg P e = some false) (he : P.underlying e = some (.int k)) (p q p' q' : Int) (w : World) : (Op.equal kt (.agg #[.int .i64 p, .int .i64 q]) (.agg #[.int .i64 p', .int .i64 q'])).run P w = .ok (p == p' && q == q') w := by
  have h1 : ∀ (d : Nat) (x y : Int), (Op.equalIn (d + 1) e (.int .i64 x) (.int .i64 y)).run P w = .ok (x == y) w := fun d x y => by
    unfold Op.equalIn; simp [run_underlying he]
  have h2 := h1 9998
  unfold Op.equal Op.maxDepth
  rw [show (10000 : Nat) = 9998 + 1 + 1 from rfl]
  unfold Op.equalIn
  simp [run_underlying hk, Std.Legacy.Range.forIn_eq_forIn_range', Std.Legacy.Range.size, List.range'_succ, run_sizeOf hz, part, run_isAgg ha, h2]
  by_cases e1 : p = p' <;> by_cases e2 : q = q' <;> simp [e1, e2]

/-- What is found is under the same key. -/
theorem run_findAsking2 {kt e : TypeId} {k : IntKind} (hk : P.underlying kt = some (.array 2 e)) (hz : tsize P e = some 1) (ha : tagg P e = some false) (he : P.underlying e = some (.int k)) (p q : Int) (w : World) {I : MInv} : ∀ (es : List MapEntry) (i : Nat), (∀ x, x ∈ es → MOk I x) →
    ∃ r, (Instr.findAsking kt (.agg #[.int .i64 p, .int .i64 q]) es i).run P w = .ok r w ∧ ∀ j v, r = some (j, v) → ∃ n, v = .int .i64 n ∧ I p q n ∧ i ≤ j ∧ ∃ x, es[j - i]? = some x ∧ x.key = .agg #[.int .i64 p, .int .i64 q]
  | [], i, _ => ⟨none, by simp [Instr.findAsking], fun j v h => by cases h⟩
  | x :: es, i, h => by
    obtain ⟨p', q', n, h1, h2, h3⟩ := h x (by simp)
    unfold Instr.findAsking
    simp only [Sem.run_bind, h1, run_equal2 hk hz ha he, Result.andThen_ok]
    by_cases hpq : (p == p' && q == q') = true
    · rw [hpq]
      simp only [Bool.and_eq_true, beq_iff_eq] at hpq
      obtain ⟨rfl, rfl⟩ := hpq
      refine ⟨some (i, x.val), by simp, fun j v e => ?_⟩
      cases e
      exact ⟨n, h2, h3, Nat.le_refl _, x, by simp, h1⟩
    · rw [if_neg hpq]
      obtain ⟨r, hr, hv⟩ := run_findAsking2 hk hz ha he p q w es (i + 1) (fun x hx => h x (by simp [hx]))
      refine ⟨r, hr, fun j v e => ?_⟩
      obtain ⟨n, k1, k2, k3, x, k4, k5⟩ := hv j v e
      refine ⟨n, k1, k2, by omega, x, ?_, k5⟩
      rw [show j - i = (j - (i + 1)) + 1 by omega]
      simpa using k4

theorem run_findKey2 {kt e : TypeId} {k : IntKind} (hk : P.underlying kt = some (.array 2 e)) (hz : tsize P e = some 1) (ha : tagg P e = some false) (he : P.underlying e = some (.int k)) (p q : Int) (w : World) {I : MInv} (es : List MapEntry) (h : ∀ x, x ∈ es → MOk I x) :
    ∃ r, (Instr.findKey kt (.agg #[.int .i64 p, .int .i64 q]) es).run P w = .ok r w ∧ ∀ j v, r = some (j, v) → ∃ n, v = .int .i64 n ∧ I p q n ∧ ∃ x, es[j]? = some x ∧ x.key = .agg #[.int .i64 p, .int .i64 q] := by
  cases es with
  | nil => exact ⟨none, by simp [Instr.findKey, run_underlying hk, Instr.findNow], fun j v h => by cases h⟩
  | cons x es =>
    obtain ⟨r, hr, hv⟩ := run_findAsking2 hk hz ha he p q w (x :: es) 0 h
    refine ⟨r, ?_, fun j v e => ?_⟩
    · simp [Instr.findKey, run_underlying hk, Instr.findNow, Instr.sameNow, hr]
    · obtain ⟨n, k1, k2, _, x, k4, k5⟩ := hv j v e
      exact ⟨n, k1, k2, x, by simpa using k4, k5⟩

/-- What stands under a key keeps to what the map keeps to. -/
theorem lookup_run {t : TypeId} (ht : mapT P t) (hb : Base L w) {I : MInv} {p q : Int} {M : Value} (hM : VRel bm L w (.map I) M) :
    ∃ n ok, (Instr.lookup t M (.agg #[.int .i64 p, .int .i64 q]) true).run P w = .ok (.tuple #[.int .i64 n, .bool ok]) w ∧ (ok = true → I p q n) := by
  obtain ⟨kt, et, e, k, h1, h2, h3, h4, h5, h6⟩ := ht
  unfold VRel at hM
  obtain ⟨b, rfl, hm⟩ := hM
  obtain ⟨_, es, c, hes, hok⟩ := hb.mp b I hm
  obtain ⟨r, hr, hv⟩ := run_findKey2 h2 h3 h4 h5 p q w es.toList hok
  have hz : (zeroValue et).run P w = .ok (.int .i64 0) w := by
    unfold tzero at h6
    cases hi : P.info? et with
    | none => simp [hi] at h6
    | some i =>
      cases hzv : i.zero with
      | none => simp [hi, hzv] at h6
      | some zv =>
        simp [hi, hzv] at h6
        have : zv = .int .i64 0 := by
          have h0 := ofConst_rel [] L w zv
          rw [h6] at h0
          exact h0.int
        subst this
        simp [zeroValue, typeInfo, hi, hzv]
  have hck := run_checkKey2 h2 h3 h4 h5 es.isEmpty 9998 p q w
  cases r with
  | none =>
    exact ⟨0, false, by simp [Instr.lookup, run_underlying h1, MapKept.run_getObj_map hes, hck, hr, hz], fun h => by cases h⟩
  | some x =>
    obtain ⟨j, v⟩ := x
    obtain ⟨n, rfl, k2, _⟩ := hv j v rfl
    exact ⟨n, true, by simp [Instr.lookup, run_underlying h1, MapKept.run_getObj_map hes, hck, hr], fun _ => k2⟩

theorem sameBits2 (p q : Int) : Instr.sameBits 10000 (.agg #[.int .i64 p, .int .i64 q]) (.agg #[.int .i64 p, .int .i64 q]) = true := by
  rw [show (10000 : Nat) = 9998 + 1 + 1 from rfl]
  unfold Instr.sameBits
  simp [Instr.sameBits]

theorem update_run {t : TypeId} (ht : mapT P t) (hb : Base L w) {I : MInv} {p q n : Int} {M : Value} (hI : I p q n) (hM : VRel bm L w (.map I) M) :
    ∃ b es es' c c', L.mp b = some I ∧ w.heap[b]? = some (.map es c) ∧ (∀ e, e ∈ es'.toList → MOk I e) ∧ (Instr.mapUpdate t M (.agg #[.int .i64 p, .int .i64 q]) (.int .i64 n)).run P w = .ok () { w with heap := w.heap.setIfInBounds b (.map es' c') } := by
  obtain ⟨kt, et, e, k, h1, h2, h3, h4, h5, h6⟩ := ht
  unfold VRel at hM
  obtain ⟨b, rfl, hm⟩ := hM
  obtain ⟨_, es, c, hes, hok⟩ := hb.mp b I hm
  obtain ⟨r, hr, hv⟩ := run_findKey2 h2 h3 h4 h5 p q w es.toList hok
  have hck := run_checkKey2 h2 h3 h4 h5 false 9998 p q w
  cases r with
  | none =>
    refine ⟨b, es, es.push { key := .agg #[.int .i64 p, .int .i64 q], val := .int .i64 n, born := c }, c, c + 1, hm, hes, ?_, ?_⟩
    · intro x hx
      simp only [Array.toList_push, List.mem_append, List.mem_singleton] at hx
      rcases hx with hx | rfl
      · exact hok x hx
      · exact ⟨p, q, n, rfl, rfl, hI⟩
    · simp [Instr.mapUpdate, run_underlying h1, MapKept.run_getObj_map hes, hck, hr, MapKept.run_setObj_map _ hes]
  | some x =>
    obtain ⟨j, v⟩ := x
    obtain ⟨m, rfl, k2, x, hx, hxk⟩ := hv j v rfl
    refine ⟨b, es, es.modify j fun e => { e with key := .agg #[.int .i64 p, .int .i64 q], val := .int .i64 n }, c, c, hm, hes, ?_, ?_⟩
    · intro y hy
      rw [Array.toList_modify] at hy
      obtain ⟨i, hi⟩ := List.mem_iff_getElem?.1 hy
      rw [List.getElem?_modify] at hi
      cases h0 : es.toList[i]? with
      | none => simp [h0] at hi
      | some y0 =>
        simp only [h0, Option.map_eq_map, Option.map_some, Option.some.injEq] at hi
        split at hi
        · subst hi; exact ⟨p, q, n, rfl, rfl, hI⟩
        · subst hi; exact hok _ (List.mem_of_getElem? h0)
    · have hx' : es[j]? = some x := by simpa using hx
      simp [Instr.mapUpdate, run_underlying h1, MapKept.run_getObj_map hes, hck, hr, MapKept.run_setObj_map _ hes, Instr.keyThatStays, hx', hxk, sameBits2]

/-- A new map's layout. -/
def Lay.map (L : Lay) (b : Nat) (I : MInv) : Lay := { L with mp := fun x => if x = b then some I else L.mp x }

theorem makeMap_sound (h : Sim bm L s a w) (o : Oper) (t : TypeId) (ho : o.op = .makeMap t none) (I : MInv) :
    ∃ w' V L', (execOp a.eval o).run P w = .ok (.value V) w' ∧ Sim bm L' s a w' ∧ Gua bm bm s.n0 s.D L w L' w' ∧ VRel bm L' w' (.map I) V := by
  have hw : ({ w with heap := w.heap.push (.map #[] 0) } : World).heap = w.heap.push (.map #[] 0) := rfl
  have hmp : ∀ b J, L.mp b = some J → (L.map w.heap.size I).mp b = some J := by
    intro b J hJ
    have := h.base.mlt hJ
    simp only [Lay.map]; rw [if_neg (by omega)]; exact hJ
  have hp : Pres bm L w bm (L.map w.heap.size I) { w with heap := w.heap.push (.map #[] 0) } [] :=
    ⟨fun _ _ h => h, Nat.le_refl _, fun _ _ => rfl, fun _ _ h => h, fun _ _ _ => Nat.le_refl _, fun b f hf _ off _ => cell_of_heap (heap_old hw (h.base.fam b f hf).2), fun b f hf C el fz hC => ⟨C, by rw [heap_old hw (h.base.fam b f hf).2]; exact hC, rfl⟩, hmp⟩
  refine ⟨{ w with heap := w.heap.push (.map #[] 0) }, .map (some w.heap.size), L.map w.heap.size I, ?_, ⟨fun t => VRel.pres0 hp (h.slots t), h.nt, h.defers, h.nx, ⟨h.base.pos, ?_, ?_, ?_, ?_⟩, h.bml, h.bmn, ?_, h.tipsN, h.tips, h.n0⟩, ?_, ?_⟩
  · simp [execOp, ho, Instr.makeMap]
  · intro b f hf; have := h.base.fam b f hf; simp; exact ⟨this.1, by omega⟩
  · intro b f hf h0
    obtain ⟨C, el, h'⟩ := h.base.own b f hf h0
    exact ⟨C, el, by rw [heap_old hw (h.base.fam b f hf).2]; exact h'⟩
  · intro b C hC
    obtain ⟨⟨el', fz', h1⟩, h2⟩ := h.base.tab b C hC
    exact ⟨⟨el', fz', by rw [heap_old hw (h.base.fam b 0 h2).2]; exact h1⟩, h2⟩
  · intro b J hJ
    simp only [Lay.map] at hJ
    split at hJ
    · rename_i e
      cases hJ; subst e
      refine ⟨?_, #[], 0, heap_new hw, by simp⟩
      cases hf : (L.map w.heap.size I).fam w.heap.size with
      | none => rfl
      | some f => exact absurd (h.base.fam w.heap.size f hf).2 (by omega)
    · obtain ⟨h1, es, c, h2, h3⟩ := h.base.mp b J hJ
      exact ⟨h1, es, c, by rw [heap_old hw (h.base.mlt hJ)]; exact h2, h3⟩
  · intro k b cs hb hc
    obtain ⟨h1, C, el, h2, h3, h4⟩ := h.boxes k b cs hb hc
    exact ⟨h1, C, el, by rw [heap_old hw (h.block_lt hb)]; exact h2, LRel.pres0 hp h3, h4⟩
  · refine ⟨by simp, rfl, rfl, rfl, Nat.le_refl _, fun _ _ => rfl, fun _ _ => rfl, fun _ _ _ _ => rfl, fun b hlt _ _ _ => heap_old hw hlt, hp.row, fun _ _ h => h, fun _ h => .inl h, fun b hlt => ?_⟩
    simp only [Lay.map]; rw [if_neg (by omega)]
  · unfold VRel; exact ⟨_, rfl, by simp [Lay.map]⟩

theorem mapUpdate_sound (h : Sim bm L s a w) (o : Oper) (t : TypeId) (m k x : Operand) (ho : o.op = .mapUpdate t m k x) {I : MInv} {p q n : Int} (ht : mapT P t) (hm : s.ev m = .map I) (hk : s.ev k = .agg [.int .i64 p, .int .i64 q]) (hx : s.ev x = .int .i64 n) (hI : I p q n) :
    ∃ w', (execOp a.eval o).run P w = .ok .skip w' ∧ Sim bm L s a w' ∧ Gua bm bm s.n0 s.D L w L w' := by
  have hm' := h.ev m
  have hk' := h.ev k
  have hx' := h.ev x
  rw [hm] at hm'
  rw [hx] at hx'
  rw [hk] at hk'
  have hkv : a.eval k = .agg #[.int .i64 p, .int .i64 q] := by
    unfold VRel at hk'
    obtain ⟨C, e, hC⟩ := hk'
    unfold LRel at hC
    obtain ⟨v1, r1, e1, g1, hC⟩ := hC
    unfold LRel at hC
    obtain ⟨v2, r2, e2, g2, hC⟩ := hC
    unfold LRel at hC
    subst hC
    have f1 := g1.int
    have f2 := g2.int
    subst f1; subst f2
    rw [e2] at e1
    rw [e]
    congr 1
    exact Array.toList_inj.1 (by simpa using e1)
  obtain ⟨b, es, es', c, c', h1, h2, h3, h4⟩ := update_run ht h.base hI hm'
  have hlt := h.base.mlt h1
  have hfam := (h.base.mp b I h1).1
  have hne : ∀ b', b' ≠ b → ({ w with heap := w.heap.setIfInBounds b (.map es' c') } : World).heap[b']? = w.heap[b']? := by
    intro b' hb'
    simp only [Array.getElem?_setIfInBounds]
    rw [if_neg (Ne.symm hb')]
  have hp : Pres bm L w bm L { w with heap := w.heap.setIfInBounds b (.map es' c') } [] :=
    ⟨fun _ _ h => h, Nat.le_refl _, fun _ _ => rfl, fun _ _ h => h, fun _ _ _ => Nat.le_refl _, fun b' f hf _ off _ => cell_of_heap (hne b' fun e => by rw [e, hfam] at hf; cases hf), fun b' f hf C el fz hC => ⟨C, by rw [hne b' fun e => by rw [e, hfam] at hf; cases hf]; exact hC, rfl⟩, fun _ _ h => h⟩
  refine ⟨{ w with heap := w.heap.setIfInBounds b (.map es' c') }, ?_, ⟨fun t => VRel.pres0 hp (h.slots t), h.nt, h.defers, h.nx, ⟨h.base.pos, ?_, ?_, ?_, ?_⟩, h.bml, h.bmn, ?_, h.tipsN, h.tips, h.n0⟩, ?_⟩
  · simp [execOp, ho, hkv, hx'.int, h4]
  · intro b' f hf; have := h.base.fam b' f hf; simpa using this
  · intro b' f hf h0
    obtain ⟨C, el, h'⟩ := h.base.own b' f hf h0
    exact ⟨C, el, by rw [hne b' fun e => by rw [e, hfam] at hf; cases hf]; exact h'⟩
  · intro b' C hC
    obtain ⟨⟨el', fz', h1⟩, h2⟩ := h.base.tab b' C hC
    exact ⟨⟨el', fz', by rw [hne b' fun e => by rw [e, hfam] at h2; cases h2]; exact h1⟩, h2⟩
  · intro b' J hJ
    by_cases e : b' = b
    · subst e
      rw [h1] at hJ; cases hJ
      exact ⟨hfam, es', c', by simp [hlt], h3⟩
    · obtain ⟨k1, es2, c2, k2, k3⟩ := h.base.mp b' J hJ
      exact ⟨k1, es2, c2, by rw [hne b' e]; exact k2, k3⟩
  · intro k' b' cs hb hc
    obtain ⟨g1, C, el, g2, g3, g4⟩ := h.boxes k' b' cs hb hc
    exact ⟨g1, C, el, by rw [hne b' fun e => by rw [e, h2] at g2; cases g2]; exact g2, LRel.pres0 hp g3, g4⟩
  · refine ⟨by simp, rfl, rfl, rfl, Nat.le_refl _, fun _ _ => rfl, fun _ _ => rfl, fun _ _ _ _ => rfl, fun b' _ _ _ hq => hne b' (fun e => by rw [e, h1] at hq; cases hq), hp.row, fun _ _ h => h, fun _ h => .inl h, fun _ _ => rfl⟩
end
end Go.Proofs.YtphndngifjgeoaaGreatDoor

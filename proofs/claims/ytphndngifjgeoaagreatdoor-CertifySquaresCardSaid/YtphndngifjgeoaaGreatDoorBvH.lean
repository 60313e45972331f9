/- The by-value logic, part H: stores into slices, calls, and that every pure step is the model's; for every program. -/
import Derived.Test.YtphndngifjgeoaaGreatDoorBvG
set_option linter.unusedVariables false
set_option linter.unusedSimpArgs false
namespace Go.Proofs.YtphndngifjgeoaaGreatDoor
section
variable {P : Program} {bm : List Nat} {L : Lay} {s : St} {a : Act} {w : World}

theorem withCells_cells {e : PV} {c : Nat} {vs : List PV} (hc : c + vs.length ≤ e.cells.length) (h0 : 0 < vs.length) (hs : ∀ x ∈ vs, ∀ cs, x ≠ PV.agg cs) :
    (e.withCells c vs).cells = putCells e.cells c vs := by
  have key : ∀ v : PV, (∀ cs, v ≠ .agg cs) → v.cells = [v] := fun v hv => by cases v <;> first | rfl | exact absurd rfl (hv _)
  cases e
  case agg cs => rfl
  all_goals
    simp only [PV.withCells, PV.cells, List.length_singleton] at hc ⊢
    have hl : vs.length = 1 := by omega
    have hc0 : c = 0 := by omega
    subst hc0
    match vs, hl with
    | [v], _ => simpa [putCells, PV.cells] using key v (hs v (by simp))

theorem poison_agg {F : List Nat} {p : PV} {cs : List PV} (h : p.poison F = .agg cs) : ∃ ds, p = .agg ds := by
  cases p <;> simp [PV.poison] at h
  case agg ds => exact ⟨ds, rfl⟩
  all_goals (split at h <;> simp at h)

theorem isCell_noAgg {p : PV} (h : p.isCell = true) : ∀ cs, p ≠ .agg cs := by intro cs e; subst e; simp [PV.isCell] at h

/-- Cells of a slice's element are written: what the slice reads as, and all else. -/
structure Wrote (L : Lay) (w w' : World) (i : Sid) (z j c : Nat) (vs : List PV) : Prop where
  pres : ∀ bm, Pres bm L w bm L w' [i.f]
  len : 0 < vs.length ∧ c + vs.length ≤ z
  noagg : ∀ x ∈ vs, ∀ cs, x ≠ PV.agg cs
  at_ : ∃ b o, L.pl i.g = (b, o) ∧ (∀ off, (off < o + i.off + j * z + c ∨ o + i.off + j * z + c + vs.length ≤ off) → w'.cell? ⟨b, off, none⟩ = w.cell? ⟨b, off, none⟩) ∧
    (∀ (t : Nat) (x : PV), vs[t]? = some x → ∃ v, w'.cell? ⟨b, o + i.off + j * z + c + t, none⟩ = some v ∧ v.oneCell' = true ∧ VRel [] L w' x v)

theorem modify_get (l : List PV) (j k : Nat) (f : PV → PV) (e : PV) (h : (l.modify j f)[k]? = some e) : ∃ e', l[k]? = some e' ∧ ((k = j ∧ e = f e') ∨ (k ≠ j ∧ e = e')) := by
  rw [List.getElem?_modify] at h
  cases hk : l[k]? with
  | none => simp [hk] at h
  | some e' =>
    refine ⟨e', rfl, ?_⟩
    simp only [hk, Option.map_eq_map, Option.map_some, Option.some.injEq] at h
    by_cases hkj : j = k
    · rw [if_pos hkj] at h; exact .inl ⟨hkj.symm, h.symm⟩
    · rw [if_neg hkj] at h; exact .inr ⟨Ne.symm hkj, h.symm⟩

mutual
theorem VRel.upd {w' : World} {i : Sid} {z j c : Nat} {vs : List PV} (hw : Wrote L w w' i z j c vs) : ∀ (p : PV) (v : Value), VRel bm L w p v → VRel bm L w' (p.upd i z j c vs) v
  | .sl i' z' es, v, h => by
    simp only [PV.upd]
    split
    · rename_i hi
      obtain ⟨rfl, rfl⟩ := hi
      unfold VRel at h ⊢
      obtain ⟨ad, cap, rfl, h⟩ := h
      rw [List.length_modify, PV.poisonL_length]
      refine ⟨ad, cap, rfl, ?_⟩
      rcases h with ⟨rfl, hc⟩ | ⟨b, o, ha, hs, hE⟩
      · left; exact ⟨by simp [PV.poisonL], hc⟩
      · right
        refine ⟨b, o, ha, hs.pres (hw.pres []), ?_⟩
        obtain ⟨b', o', hpl, hsame, hnew⟩ := hw.at_
        obtain ⟨base, hpl', ho⟩ := hs.hpl
        rw [hpl] at hpl'; cases hpl'
        refine ERel.of_get fun k e he => ?_
        obtain ⟨e', he', hk⟩ := modify_get _ j k _ e he
        rw [PV.poisonL_map, List.getElem?_map, Option.map_eq_some_iff] at he'
        obtain ⟨e0, he0, rfl⟩ := he'
        obtain ⟨k1, k2⟩ := hE.get k e0 he0
        have hpl1 : (e0.poison [i'.f]).cells = PV.poisonL [i'.f] e0.cells := by
          by_cases ha : ∃ ds, e0 = .agg ds
          · obtain ⟨ds, rfl⟩ := ha; simp [PV.poison, PV.cells]
          · have hn : ∀ ds, e0 ≠ .agg ds := fun ds e => ha ⟨ds, e⟩
            have c1 : e0.cells = [e0] := by cases e0 <;> first | rfl | exact absurd rfl (hn _)
            have hn' : ∀ ds, e0.poison [i'.f] ≠ .agg ds := fun ds e => ha (poison_agg e)
            have c2 : (e0.poison [i'.f]).cells = [e0.poison [i'.f]] := by
              generalize e0.poison [i'.f] = q at hn'
              cases q <;> first | rfl | exact absurd rfl (hn' _)
            rw [c1, c2]; simp [PV.poisonL]
        have hlen1 : (e0.poison [i'.f]).cells.length = z' := by rw [hpl1, PV.poisonL_length]; exact k1
        -- a cell that stays
        have stay : ∀ (t : Nat) (x : PV), (e0.poison [i'.f]).cells[t]? = some x → (k ≠ j ∨ t < c ∨ c + vs.length ≤ t) → ∃ v, w'.cell? ⟨b, o + k * z' + t, none⟩ = some v ∧ v.oneCell' = true ∧ VRel [] L w' x v := by
          intro t x hx hcase
          rw [hpl1, PV.poisonL_map, List.getElem?_map, Option.map_eq_some_iff] at hx
          obtain ⟨x0, hx0, rfl⟩ := hx
          obtain ⟨v, hv, hv1, hr⟩ := k2.get1 t x0 hx0
          have htz : t < z' := by rw [← k1]; exact (List.getElem?_eq_some_iff.1 hx0).1
          refine ⟨v, ?_, hv1, VRel.pres x0 [] [] (hw.pres []) v hr⟩
          rw [hsame _ ?_]
          · exact hv
          · have hle := hw.len.2
            rcases Nat.lt_trichotomy k j with hkj | hkj | hkj
            · have : (k + 1) * z' ≤ j * z' := Nat.mul_le_mul_right _ hkj
              rw [Nat.add_mul] at this; omega
            · subst hkj; rcases hcase with hcase | hcase | hcase
              · exact absurd rfl hcase
              · omega
              · omega
            · have : (j + 1) * z' ≤ k * z' := Nat.mul_le_mul_right _ hkj
              rw [Nat.add_mul] at this; omega
        rcases hk with ⟨rfl, rfl⟩ | ⟨hkj, rfl⟩
        · have hcc := withCells_cells (e := e0.poison [i'.f]) (c := c) (vs := vs) (by rw [hlen1]; exact hw.len.2) hw.len.1 hw.noagg
          rw [hcc]
          refine ⟨by simp [putCells, hlen1]; have := hw.len.2; omega, KRel.of_get fun t x hx => ?_⟩
          unfold putCells at hx
          have htake : ((e0.poison [i'.f]).cells.take c).length = c := by rw [List.length_take, hlen1]; have := hw.len.2; omega
          by_cases ht : t < c
          · rw [List.append_assoc, List.getElem?_append_left (by omega), List.getElem?_take, if_pos ht] at hx
            exact stay t x hx (.inr (.inl ht))
          · by_cases ht2 : t < c + vs.length
            · rw [List.append_assoc, List.getElem?_append_right (by omega), htake, List.getElem?_append_left (by omega)] at hx
              obtain ⟨v, hv, hv1, hr⟩ := hnew (t - c) x hx
              refine ⟨v, ?_, hv1, hr⟩
              rw [show o + k * z' + t = o' + i'.off + k * z' + c + (t - c) from by omega]
              exact hv
            · rw [List.getElem?_append_right (by simp [htake]; omega), List.length_append, htake, List.getElem?_drop, show c + vs.length + (t - (c + vs.length)) = t from by omega] at hx
              exact stay t x hx (.inr (.inr (by omega)))
        · exact ⟨hlen1, KRel.of_get fun t x hx => stay t x hx (.inl hkj)⟩
    · exact VRel.pres _ bm bm (hw.pres bm) v h
  | .agg cs, v, h => by
    unfold VRel at h
    obtain ⟨C, rfl, h⟩ := h
    simp only [PV.upd]; unfold VRel
    exact ⟨C, rfl, LRel.upd hw cs _ h⟩
  | .tup cs, v, h => by
    unfold VRel at h
    obtain ⟨C, rfl, h⟩ := h
    simp only [PV.upd]; unfold VRel
    exact ⟨C, rfl, LRel.upd hw cs _ h⟩
  | .undef, v, h => by simp [PV.upd, PV.poison, VRel]
  | .bool b, v, h => by simpa [PV.upd, PV.poison, VRel] using h
  | .int k n, v, h => by simpa [PV.upd, PV.poison, VRel] using h
  | .float k n, v, h => by simpa [PV.upd, PV.poison, VRel] using h
  | .box k o, v, h => by simpa [PV.upd, PV.poison, VRel] using h
  | .gp b o, v, h => by simpa [PV.upd, PV.poison, VRel] using h
  | .map I, v, h => by simpa [PV.upd, PV.poison, VRel] using h
  | .elt i' z' es j' c', v, h => by
    simp only [PV.upd]
    exact VRel.pres _ bm bm (hw.pres bm) v h
  | .fn f cs, v, h => by
    simp only [PV.upd]
    exact VRel.pres _ bm bm (hw.pres bm) v h
theorem LRel.upd {w' : World} {i : Sid} {z j c : Nat} {vs : List PV} (hw : Wrote L w w' i z j c vs) : ∀ (l : List PV) (us : List Value), LRel bm L w l us → LRel bm L w' (PV.updL i z j c vs l) us
  | [], us, h => by simpa [PV.updL, LRel] using h
  | p :: ps, us, h => by
    unfold LRel at h
    obtain ⟨v, vs', rfl, h1, h2⟩ := h
    simp only [PV.updL]; unfold LRel
    exact ⟨v, vs', rfl, VRel.upd hw p v h1, LRel.upd hw ps vs' h2⟩
end

theorem updL_length (i : Sid) (z j c : Nat) (vs : List PV) : ∀ l : List PV, (PV.updL i z j c vs l).length = l.length
  | [] => by simp [PV.updL]
  | p :: ps => by simp [PV.updL, updL_length i z j c vs ps]

theorem storeElt_sound (h : Sim bm L s a w) (o : Oper) (t : TypeId) (x y : Operand) (ho : o.op = .store t x y) (hs : (s.ev y).sized = true) (hc : (s.ev y).cells.all PV.isCell = true) (ht : tsize P t = some (s.ev y).cells.length) {i : Sid} {z j c : Nat} {es : List PV} (hx : s.ev x = .elt i z es j c)
    (hf0 : i.f ≠ 0) (hcl : (s.ev y).closed = true) (hle : c + (s.ev y).cells.length ≤ z) (hpos : 0 < (s.ev y).cells.length) (hj : j < es.length) :
    ∃ w', (execOp a.eval o).run P w = .ok .skip w' ∧ Sim bm L (s.upd i z j c (PV.poisonL [i.f] (s.ev y).cells)) a w' ∧ Gua bm bm s.n0 (s.upd i z j c (PV.poisonL [i.f] (s.ev y).cells)).D L w L w' := by
  obtain ⟨v1, v2⟩ := sized_one ((h.ev y).open hcl) hs hc
  have hx' := h.ev x
  rw [hx] at hx'
  unfold VRel at hx'
  obtain ⟨b, ob, cap, hx', hsl, hE⟩ := hx'
  obtain ⟨base, hpl, hob⟩ := hsl.hpl
  obtain ⟨cur, el, hC⟩ := h.base.own b i.f hsl.hfam hf0
  obtain ⟨C, el', fz, hC', hrow⟩ := hsl.hrow
  rw [hC] at hC'; cases hC'
  have hvl : (a.eval y).cells.size = (s.ev y).cells.length := by simpa using v1.length.symm
  have hjz : (j + 1) * z ≤ es.length * z := Nat.mul_le_mul_right _ hj
  have hcapz : es.length * z ≤ cap * z := Nat.mul_le_mul_right _ hsl.hcap
  rw [Nat.add_mul] at hjz
  have hst := storeVar_run ht hvl (off := ob + j * z + c) hC (by omega) v2
  let C' : Array Value := (cur.toList.take (ob + j * z + c) ++ (a.eval y).cells.toList ++ cur.toList.drop (ob + j * z + c + (a.eval y).cells.toList.length)).toArray
  have hC'sz : C'.size = cur.size := by simp [C']; omega
  have hC'get : ∀ off, (off < ob + j * z + c ∨ ob + j * z + c + (s.ev y).cells.length ≤ off) → C'[off]? = cur[off]? := by
    intro off hoff
    have htk : (cur.toList.take (ob + j * z + c)).length = ob + j * z + c := by simp; omega
    simp only [C', List.getElem?_toArray]
    rcases hoff with hoff | hoff
    · rw [List.append_assoc, List.getElem?_append_left (by omega), List.getElem?_take, if_pos hoff]; simp
    · rw [List.getElem?_append_right (by simp [htk]; omega), List.length_append, htk, List.getElem?_drop]
      simp only [Array.length_toList, hvl]
      rw [show ob + j * z + c + (s.ev y).cells.length + (off - (ob + j * z + c + (s.ev y).cells.length)) = off from by omega]
      simp
  have hsame : ∀ off, (off < ob + j * z + c ∨ ob + j * z + c + (s.ev y).cells.length ≤ off) → (w.setRow b C').cell? ⟨b, off, none⟩ = w.cell? ⟨b, off, none⟩ := by
    intro off hoff
    rw [cell_of_row _ _ _ _ _ _ (setRow_get w b C' hC), cell_of_row _ _ _ _ _ _ hC]
    exact hC'get off hoff
  have hp : ∀ bm, Pres bm L w bm L (w.setRow b C') [i.f] := by
    intro bm
    refine ⟨fun _ _ h => h, Nat.le_refl _, fun _ _ => rfl, fun _ _ h => h, fun _ _ _ => Nat.le_refl _, ?_, ?_, fun _ _ h => h⟩
    · intro b' f hf hnf off _
      exact cell_of_heap (setRow_ne w C' (fun e => by rw [e, hsl.hfam] at hf; cases hf; simp at hnf))
    · intro b' f hf D el2 fz2 hD
      by_cases e : b' = b
      · subst e; rw [hC] at hD; cases hD; exact ⟨C', setRow_get w b' C' hC, hC'sz⟩
      · exact ⟨D, by rw [setRow_ne w C' e]; exact hD, rfl⟩
  have hnoagg : ∀ x ∈ PV.poisonL [i.f] (s.ev y).cells, ∀ cs, x ≠ PV.agg cs := by
    intro x hx cs e
    rw [PV.poisonL_map, List.mem_map] at hx
    obtain ⟨x0, hx0, rfl⟩ := hx
    obtain ⟨ds, rfl⟩ := poison_agg e
    have := List.all_eq_true.1 hc _ hx0
    simp [PV.isCell] at this
  have hwrote : Wrote L w (w.setRow b C') i z j c (PV.poisonL [i.f] (s.ev y).cells) := by
    refine ⟨hp, by rw [PV.poisonL_length]; exact ⟨hpos, hle⟩, hnoagg, b, base, hpl, ?_, ?_⟩
    · intro off hoff
      rw [PV.poisonL_length] at hoff
      exact hsame off (by omega)
    · intro t' x hx
      rw [PV.poisonL_map, List.getElem?_map, Option.map_eq_some_iff] at hx
      obtain ⟨x0, hx0, rfl⟩ := hx
      obtain ⟨v, hv, hr⟩ := v1.get t' x0 hx0
      refine ⟨v, ?_, v2 v (List.mem_of_getElem? hv), VRel.pres x0 [] [] (hp []) v hr⟩
      rw [cell_of_row _ _ _ _ _ _ (setRow_get w b C' hC)]
      have htk : (cur.toList.take (ob + j * z + c)).length = ob + j * z + c := by simp; omega
      have hlt := (List.getElem?_eq_some_iff.1 hv).1
      simp only [C', List.getElem?_toArray]
      rw [List.append_assoc, show base + i.off + j * z + c + t' = ob + j * z + c + t' from by omega, List.getElem?_append_right (by omega), htk, Nat.add_sub_cancel_left, List.getElem?_append_left hlt]
      exact hv
  have htab : ∀ b' C0, (b', C0) ∈ tabs → (∃ el fz, (w.setRow b C').heap[b']? = some (.cells C0.toArray el fz)) ∧ L.fam b' = some 0 := by
    intro b' C0 hC0
    obtain ⟨⟨el', fz', h1⟩, h2⟩ := h.base.tab b' C0 hC0
    exact ⟨⟨el', fz', by rw [setRow_ne w C' (fun e => by rw [e, hsl.hfam] at h2; exact hf0 (by simpa using h2))]; exact h1⟩, h2⟩
  have hmp : ∀ b' I, L.mp b' = some I → L.fam b' = none ∧ ∃ es c, (w.setRow b C').heap[b']? = some (.map es c) ∧ ∀ e, e ∈ es.toList → MOk I e := by
    intro b' I hI
    obtain ⟨h1, es, c, h2, h3⟩ := h.base.mp b' I hI
    exact ⟨h1, es, c, by rw [setRow_ne w C' (fun e => by rw [e, hC] at h2; cases h2)]; exact h2, h3⟩
  refine ⟨w.setRow b C', ?_, ⟨fun t => VRel.upd hwrote _ _ (h.slots t), h.nt, h.defers, h.nx, ⟨h.base.pos, ?_, ?_, htab, hmp⟩, by simp [St.upd, h.bml], h.bmn, ?_, h.tipsN, h.tips, h.n0⟩, ?_⟩
  · simp [execOp, ho, Instr.storeAt, hx', Instr.sureAddr, hst, C']
  · intro b' f hf; have := h.base.fam b' f hf; simpa using this
  · intro b' f hf h0
    by_cases e : b' = b
    · subst e; exact ⟨C', el, setRow_get w b' C' hC⟩
    · obtain ⟨D, el', hD⟩ := h.base.own b' f hf h0
      exact ⟨D, el', by rw [setRow_ne w C' e]; exact hD⟩
  · intro k' b' cs' hb' hcs'
    simp only [St.upd, List.getElem?_map, Option.map_eq_some_iff] at hcs'
    obtain ⟨cs0, hcs0, rfl⟩ := hcs'
    obtain ⟨g1, D, el', g2, g3, g4⟩ := h.boxes k' b' cs0 hb' hcs0
    have hne : b' ≠ b := fun e => by rw [e, hsl.hfam] at g1; cases g1
    exact ⟨g1, D, el', by rw [setRow_ne w C' hne]; exact g2, LRel.upd hwrote _ _ g3, g4⟩
  · refine ⟨by simp, rfl, rfl, rfl, Nat.le_refl _, fun _ _ => rfl, fun _ _ => rfl, fun _ _ _ _ => rfl, ?_, (hp []).row, fun _ _ h => h, fun _ h => .inl h, fun _ _ => rfl⟩
    intro b' _ hfb _ _
    refine setRow_ne w C' (fun e => ?_)
    have := hfb i.f (by rw [e]; exact hsl.hfam)
    simp only [St.upd, this.1, if_true] at this
    exact this.2 (List.mem_insert_self)
end
end Go.Proofs.YtphndngifjgeoaaGreatDoor

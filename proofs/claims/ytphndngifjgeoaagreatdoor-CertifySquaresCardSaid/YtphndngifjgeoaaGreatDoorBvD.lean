/- The by-value logic, part D: each light operation of the model comes to what the pure one says, and turns no world; for every program. -/
import Derived.Test.YtphndngifjgeoaaGreatDoorBvC
set_option linter.unusedVariables false
set_option linter.unusedSimpArgs false
namespace Go.Proofs.YtphndngifjgeoaaGreatDoor
section
variable {P : Program} {bm : List Nat} {L : Lay} {s : St} {a : Act} {w : World}

theorem Sim.box_get (h : Sim bm L s a w) {k b : Nat} {cs : List PV} (hb : bm[k]? = some b) (hc : s.boxes[k]? = some cs) :
    ∀ (j : Nat) (c : PV), cs[j]? = some c → ∃ u, w.cell? ⟨b, 0 + j, none⟩ = some u ∧ VRel bm L w c u := by
  intro j c hj
  obtain ⟨_, C, el, hC, hrel, _⟩ := h.boxes k b cs hb hc
  obtain ⟨u, hu, hr⟩ := hrel.get j c hj
  refine ⟨u, ?_, hr⟩
  simp only [World.cell?, hC, Option.isSome_none, Bool.false_eq_true, if_false, Nat.zero_add]
  simpa using hu

theorem field_run {t : TypeId} {f off z : Nat} (hf : tfld P t f = some (off, z)) (hz : z ≠ 0) (b o : Nat) (w : World) :
    (Instr.fieldAt t (.pointer (some ⟨b, o, none⟩)) f).run P w = .ok (.pointer (some ⟨b, o + off, none⟩)) w := by
  obtain ⟨fs, fl, hd, hfl, rfl, hz'⟩ := tfld_spec hf
  have hne : ¬ z = 0 := hz
  simp only [Instr.fieldAt, Sem.run_bind, run_underlying hd, Result.andThen_ok, hfl, Instr.sureAddr, Sem.run_pure, fieldPlace, run_sizeOf hz', hne, if_false, addr_add]

theorem indexSl_run {t e : TypeId} {z : Nat} (ht : tslice P t = some e) (hz : tsize P e = some z) (b o len cap : Nat) (k : IntKind) (n : Int) (h0 : 0 ≤ n) (h1 : n < len) (w : World) :
    (Instr.indexAt t (.slice (some ⟨b, o, none⟩) len cap) (.int k n)).run P w = .ok (.pointer (some ⟨b, o + n.toNat * z, none⟩)) w := by
  have hd := tslice_spec ht
  simp only [Instr.indexAt, asIntOf, Sem.run_bind, Sem.run_pure, Result.andThen_ok, run_underlying hd, h0, h1, and_self, if_true, run_sizeOf hz, addr_add]

theorem indexArr_run {t e : TypeId} {z len : Nat} (ht : tarr P t = some (len, e)) (hz : tsize P e = some z) (b o : Nat) (k : IntKind) (n : Int) (h0 : 0 ≤ n) (h1 : n < len) (w : World) :
    (Instr.indexAt t (.pointer (some ⟨b, o, none⟩)) (.int k n)).run P w = .ok (.pointer (some ⟨b, o + n.toNat * z, none⟩)) w := by
  have hd := tarr_spec ht
  simp only [Instr.indexAt, asIntOf, Sem.run_bind, Sem.run_pure, Result.andThen_ok, run_underlying hd, Instr.sureAddr, h0, h1, and_self, if_true, run_sizeOf hz, addr_add]

theorem part_run {t : TypeId} {cs : List PV} {off : Nat} {v : PV} (h : loadP P t cs off = some v) {C : Array Value} (hc : LRel bm L w cs C.toList) :
    ∃ V, (part t C off).run P w = .ok V w ∧ VRel bm L w v V := by
  unfold loadP at h
  split at h
  · rename_i ha
    split at h
    · rename_i n hn
      split at h
      · simp at h; subst h
        refine ⟨.agg (C.extract off (off + n)), ?_, ?_⟩
        · simp only [part, Sem.run_bind, run_isAgg ha, Result.andThen_ok, if_true, run_sizeOf hn, Sem.run_pure]
        · unfold VRel
          refine ⟨_, rfl, ?_⟩
          have := (hc.drop off).take n
          simpa [Array.toList_extract, List.extract_eq_take_drop] using this
      · cases h
    · cases h
  · rename_i ha
    obtain ⟨u, hu, hr⟩ := hc.get off v h
    refine ⟨u, ?_, hr⟩
    have hu' : C[off]? = some u := by simpa using hu
    simp only [part, Sem.run_bind, run_isAgg ha, Result.andThen_ok, Bool.false_eq_true, if_false, hu', Sem.run_pure]
  · cases h

theorem tfldAgg_spec {t : TypeId} {f off z : Nat} {b : Bool} (hf : tfld P t f = some (off, z)) (ha : tfldAgg P t f = some b) :
    ∃ fs fl, P.underlying t = some (.struct fs) ∧ fs[f]? = some fl ∧ fl.offset = off ∧ tsize P fl.type = some z ∧ tagg P fl.type = some b := by
  obtain ⟨fs, fl, hd, hfl, ho, hz⟩ := tfld_spec hf
  refine ⟨fs, fl, hd, hfl, ho, hz, ?_⟩
  simpa [tfldAgg, hd, hfl] using ha

theorem light_move (h : Sim bm L s a w) (o : Oper) (x : Operand) (ho : o.op = .move x ∨ o.op = .assign x) : ∃ V, (execOp a.eval o).run P w = .ok (.value V) w ∧ VRel bm L w (s.ev x) V := by
  refine ⟨a.eval x, ?_, h.ev x⟩
  rcases ho with ho | ho <;> simp [execOp, ho]

theorem light_load (h : Sim bm L s a w) (o : Oper) (t : TypeId) (x : Operand) (ho : o.op = .load t x) {v : PV} (hl : light P s o = some v) : ∃ V, (execOp a.eval o).run P w = .ok (.value V) w ∧ VRel bm L w v V := by
  simp only [light, ho, loadV] at hl
  have hx := h.ev x
  split at hl
  · rename_i k off he
    rw [he] at hx
    unfold VRel at hx
    obtain ⟨b, hb, hx⟩ := hx
    split at hl
    · rename_i cs hcs
      obtain ⟨V, hV, hr⟩ := loadP_run (o := 0) hl (h.box_get hb hcs)
      refine ⟨V, ?_, hr⟩
      simp only [Nat.zero_add] at hV
      simp [execOp, ho, hx, Instr.loadAt, Instr.sureAddr, hV]
    · cases hl
  · rename_i i z es j c he
    rw [he] at hx
    unfold VRel at hx
    obtain ⟨b, ob, cap, hx, hs, hE⟩ := hx
    split at hl
    · rename_i e hje
      obtain ⟨_, hK⟩ := hE.get j e hje
      obtain ⟨V, hV, hr⟩ := loadP_run (bm := bm) (L := L) hl (b := b) (o := ob + j * z) fun j' c' hc' => by
        obtain ⟨u, hu, hr⟩ := hK.get j' c' hc'
        exact ⟨u, hu, VRel.shut L w bm c' u hr⟩
      exact ⟨V, by simp [execOp, ho, hx, Instr.loadAt, Instr.sureAddr, hV], hr⟩
    · cases hl
  · rename_i b off he
    rw [he] at hx
    unfold VRel at hx
    split at hl
    · rename_i cs hcs
      unfold tabOf at hcs
      obtain ⟨x, hx1, hx2⟩ := Option.map_eq_some_iff.1 hcs
      have hmem := List.mem_of_find?_eq_some hx1
      have hxb : x.1 = b := by simpa using List.find?_some hx1
      obtain ⟨⟨el, fz, hC⟩, _⟩ := h.base.tab x.1 x.2 hmem
      rw [hxb] at hC
      obtain ⟨V, hV, hr⟩ := loadP_run (bm := bm) (L := L) hl (b := b) (o := 0) fun j' c' hc' => by
        rw [← hx2, List.getElem?_map] at hc'
        obtain ⟨u, hu, rfl⟩ := Option.map_eq_some_iff.1 hc'
        exact ⟨u, by simp [World.cell?, hC, hu], ofConst1_rel bm L w u⟩
      refine ⟨V, ?_, hr⟩
      simp only [Nat.zero_add] at hV
      simp [execOp, ho, hx, Instr.loadAt, Instr.sureAddr, hV]
    · cases hl
  · cases hl

theorem light_fieldAddr (h : Sim bm L s a w) (o : Oper) (t : TypeId) (x : Operand) (f : Nat) (ho : o.op = .fieldAddr t x f) {v : PV} (hl : light P s o = some v) : ∃ V, (execOp a.eval o).run P w = .ok (.value V) w ∧ VRel bm L w v V := by
  simp only [light, ho, fieldAddrV] at hl
  have hx := h.ev x
  split at hl
  · rename_i off z hf
    split at hl
    · cases hl
    · rename_i hz
      split at hl
      · rename_i k o' he
        rw [he] at hx
        unfold VRel at hx
        obtain ⟨b, hb, hx⟩ := hx
        simp at hl; subst hl
        refine ⟨.pointer (some ⟨b, o' + off, none⟩), ?_, ?_⟩
        · simp [execOp, ho, hx, field_run hf hz]
        · unfold VRel; exact ⟨b, hb, rfl⟩
      · rename_i i z' es j c he
        rw [he] at hx
        unfold VRel at hx
        obtain ⟨b, ob, cap, hx, hs, hE⟩ := hx
        simp at hl; subst hl
        refine ⟨.pointer (some ⟨b, ob + j * z' + (c + off), none⟩), ?_, ?_⟩
        · simp [execOp, ho, hx, field_run hf hz, Nat.add_assoc]
        · unfold VRel; exact ⟨b, ob, cap, rfl, hs, hE⟩
      · cases hl
  · cases hl

theorem light_indexAddr (h : Sim bm L s a w) (o : Oper) (t : TypeId) (x ix : Operand) (ho : o.op = .indexAddr t x ix) {v : PV} (hl : light P s o = some v) : ∃ V, (execOp a.eval o).run P w = .ok (.value V) w ∧ VRel bm L w v V := by
  simp only [light, ho, indexAddrV] at hl
  have hx := h.ev x
  have hi := h.ev ix
  split at hl
  · rename_i i z es k n he hn
    rw [he] at hx; rw [hn] at hi
    have hi := hi.int
    unfold VRel at hx
    obtain ⟨ad, cap, hx, hx'⟩ := hx
    split at hl
    · rename_i e hte
      split at hl
      · rename_i hcond
        split at hl
        · rename_i hz
          simp at hl; subst hl
          rcases hx' with ⟨h0, _⟩ | ⟨b, ob, rfl, hs, hE⟩
          · subst h0; simp at hcond; omega
          · refine ⟨.pointer (some ⟨b, ob + n.toNat * z, none⟩), ?_, ?_⟩
            · simp [execOp, ho, hx, hi, indexSl_run hte hz b ob es.length cap k n hcond.1 hcond.2]
            · unfold VRel; exact ⟨b, ob, cap, by simp, hs, hE⟩
        · cases hl
      · cases hl
    · cases hl
  · rename_i k off ik n he hn
    rw [he] at hx; rw [hn] at hi
    have hi := hi.int
    unfold VRel at hx
    obtain ⟨b, hb, hx⟩ := hx
    split at hl
    · rename_i len e hta
      split at hl
      · rename_i z hz
        split at hl
        · rename_i hcond
          simp at hl; subst hl
          refine ⟨.pointer (some ⟨b, off + n.toNat * z, none⟩), ?_, ?_⟩
          · simp [execOp, ho, hx, hi, indexArr_run hta hz b off ik n hcond.1 hcond.2]
          · unfold VRel; exact ⟨b, hb, rfl⟩
        · cases hl
      · cases hl
    · cases hl
  · rename_i b off ik n he hn
    rw [he] at hx; rw [hn] at hi
    have hi := hi.int
    unfold VRel at hx
    split at hl
    · rename_i len e hta
      split at hl
      · rename_i z hz
        split at hl
        · rename_i hcond
          simp at hl; subst hl
          refine ⟨.pointer (some ⟨b, off + n.toNat * z, none⟩), ?_, ?_⟩
          · simp [execOp, ho, hx, hi, indexArr_run hta hz b off ik n hcond.1 hcond.2]
          · unfold VRel; rfl
        · cases hl
      · cases hl
    · cases hl
  · cases hl

theorem light_indexV (h : Sim bm L s a w) (o : Oper) (t : TypeId) (x ix : Operand) (ho : o.op = .index t x ix) {v : PV} (hl : indexV P t (s.ev x) (s.ev ix) = some v) : ∃ V, (execOp a.eval o).run P w = .ok (.value V) w ∧ VRel bm L w v V := by
  simp only [indexV] at hl
  have hx := h.ev x
  have hi := h.ev ix
  split at hl
  · rename_i cs k n he hn
    rw [he] at hx; rw [hn] at hi
    have hi := hi.int
    unfold VRel at hx
    obtain ⟨C, hx, hC⟩ := hx
    split at hl
    · rename_i len e hta
      split at hl
      · rename_i z hz
        split at hl
        · rename_i hcond
          obtain ⟨V, hV, hr⟩ := part_run hl hC
          refine ⟨V, ?_, hr⟩
          have hd := tarr_spec hta
          simp [execOp, ho, hx, hi, Instr.index, asIntOf, run_underlying hd, hcond.1, hcond.2, run_sizeOf hz, hV]
        · cases hl
      · cases hl
    · cases hl
  · cases hl

theorem light_index (h : Sim bm L s a w) (o : Oper) (t : TypeId) (x ix : Operand) (ho : o.op = .index t x ix) {v : PV} (hl : light P s o = some v) : ∃ V, (execOp a.eval o).run P w = .ok (.value V) w ∧ VRel bm L w v V := by
  simp only [light, ho, indexC] at hl
  split at hl
  · rename_i b
    have hi := h.ev ix
    unfold strAt at hl
    split at hl
    · rename_i k n hn hd
      rw [hn] at hi
      have hi := hi.int
      split at hl
      · rename_i h0
        cases hb : b[n.toNat]? with
        | none => rw [hb] at hl; cases hl
        | some c =>
          rw [hb] at hl
          cases hl
          refine ⟨_, ?_, by simp only [VRel]; exact rfl⟩
          have he : a.eval (.const (.string b)) = .string b := rfl
          simp [execOp, ho, hi, he, Instr.index, asIntOf, run_underlying hd, h0, hb]
      · cases hl
    · cases hl
  · exact light_indexV h o t x ix ho hl

theorem light_field (h : Sim bm L s a w) (o : Oper) (t : TypeId) (x : Operand) (f : Nat) (ho : o.op = .field t x f) {v : PV} (hl : light P s o = some v) : ∃ V, (execOp a.eval o).run P w = .ok (.value V) w ∧ VRel bm L w v V := by
  simp only [light, ho, fieldV] at hl
  have hx := h.ev x
  split at hl
  · rename_i cs he
    rw [he] at hx
    unfold VRel at hx
    obtain ⟨C, hx, hC⟩ := hx
    split at hl
    · rename_i off z hf ha
      obtain ⟨fs, fl, hd, hfl, rfl, hz, hag⟩ := tfldAgg_spec hf ha
      obtain ⟨V, hV, hr⟩ := part_run (P := P) (t := fl.type) (off := fl.offset) (v := v) (by simp only [loadP, hag, hz]; exact hl) hC
      exact ⟨V, by simp [execOp, ho, hx, Instr.field, run_underlying hd, hfl, asAgg, hV], hr⟩
    · rename_i off z hf ha
      obtain ⟨fs, fl, hd, hfl, rfl, hz, hag⟩ := tfldAgg_spec hf ha
      obtain ⟨V, hV, hr⟩ := part_run (P := P) (t := fl.type) (off := fl.offset) (v := v) (by simp only [loadP, hag]; exact hl) hC
      exact ⟨V, by simp [execOp, ho, hx, Instr.field, run_underlying hd, hfl, asAgg, hV], hr⟩
    · cases hl
  · cases hl

theorem light_convert (h : Sim bm L s a w) (o : Oper) (src dst : TypeId) (x : Operand) (ho : o.op = .convert src dst x) {v : PV} (hl : light P s o = some v) : ∃ V, (execOp a.eval o).run P w = .ok (.value V) w ∧ VRel bm L w v V := by
  simp only [light, ho, convV] at hl
  have hx := h.ev x
  split at hl
  · rename_i k n he
    rw [he] at hx
    have hx := hx.int
    split at hl
    · rename_i hs
      unfold tsome at hs
      obtain ⟨d, hd⟩ := Option.isSome_iff_exists.1 hs
      cases hk : tint P dst with
      | none => simp [hk] at hl
      | some k' =>
        simp [hk] at hl; subst hl
        have hdd := tint_spec hk
        refine ⟨.int k' (k'.wrap n), ?_, by unfold VRel; rfl⟩
        simp only [execOp, ho, hx, convert, Sem.run_bind, run_underlying hd, run_underlying hdd, Result.andThen_ok]
        cases d <;> rfl
    · cases hl
  · cases hl

theorem light_extract (h : Sim bm L s a w) (o : Oper) (t : Operand) (ix : Nat) (ho : o.op = .extract t ix) {v : PV} (hl : light P s o = some v) : ∃ V, (execOp a.eval o).run P w = .ok (.value V) w ∧ VRel bm L w v V := by
  simp only [light, ho, extractV] at hl
  have hx := h.ev t
  split at hl
  · rename_i vs he
    rw [he] at hx
    unfold VRel at hx
    obtain ⟨C, hx, hC⟩ := hx
    obtain ⟨u, hu, hr⟩ := hC.get ix v hl
    have hu' : C[ix]? = some u := by simpa using hu
    exact ⟨u, by simp [execOp, ho, hx, Instr.extract, hu'], hr⟩
  · cases hl

theorem light_build (h : Sim bm L s a w) (o : Oper) (t : TypeId) (parts : Array (Nat × Operand)) (ho : o.op = .build t parts) {v : PV} (hl : light P s o = some v) : ∃ V, (execOp a.eval o).run P w = .ok (.value V) w ∧ VRel bm L w v V := by
  simp only [light, ho, buildV] at hl
  split at hl
  · rename_i zero pl hz hpl
    cases hf : fillP pl zero (parts.toList.map fun x => (x.1, s.ev x.2)) with
    | none => simp [hf] at hl
    | some out =>
      simp [hf] at hl; subst hl
      unfold tzero at hz
      cases hi : P.info? t with
      | none => simp [hi] at hz
      | some i =>
        cases hzv : i.zero with
        | none => simp [hi, hzv] at hz
        | some zv =>
          simp [hi, hzv] at hz
          have hzr := ofConst_rel bm L w zv
          rw [hz] at hzr
          unfold VRel at hzr
          obtain ⟨C, hzv', hC⟩ := hzr
          obtain ⟨fs, hd, hrun⟩ := tplaces_run hpl w
          obtain ⟨D, hD, hout⟩ := fillP_run (bm := bm) (L := L) (w := w) pl (parts.toList.map fun x => (x.1, s.ev x.2)) (parts.map fun x => (x.1, a.eval x.2)).toList zero C out hf hC (by simp) (by
            intro j i p hj
            simp only [List.getElem?_map, Option.map_eq_some_iff] at hj
            obtain ⟨⟨i', x⟩, hx, he⟩ := hj
            simp at he
            obtain ⟨rfl, rfl⟩ := he
            have hx' : parts[j]? = some (i', x) := by simpa using hx
            exact ⟨a.eval x, by simp [hx'], h.ev x⟩)
          refine ⟨.agg D, ?_, by unfold VRel; exact ⟨D, rfl, hout⟩⟩
          simp only [execOp, ho, Instr.build, Sem.run_bind, zeroValue, typeInfo, run_program, Result.andThen_ok, hi, Sem.run_pure, hzv, run_underlying hd]
          simp only [hrun, Result.andThen_ok, hzv', Value.cells, hD, Sem.run_pure]
  · rename_i zero pl hz _ hpl
    split at hl
    · rename_i hall
      cases hf : fillP pl zero (parts.toList.map fun x => (x.1, s.ev x.2)) with
      | none => simp [hf] at hl
      | some out =>
        simp [hf] at hl; subst hl
        unfold tzero at hz
        cases hi : P.info? t with
        | none => simp [hi] at hz
        | some i =>
          cases hzv : i.zero with
          | none => simp [hi, hzv] at hz
          | some zv =>
            simp [hi, hzv] at hz
            have hzr := ofConst_rel bm L w zv
            rw [hz] at hzr
            unfold VRel at hzr
            obtain ⟨C, hzv', hC⟩ := hzr
            obtain ⟨n, e, z, hd, hrun, hpn, hpl2⟩ := aplaces_run hpl w
            obtain ⟨D, hD, hout⟩ := fillP_run (bm := bm) (L := L) (w := w) pl (parts.toList.map fun x => (x.1, s.ev x.2)) (parts.map fun x => (x.1, a.eval x.2)).toList zero C out hf hC (by simp) (by
              intro j i p hj
              simp only [List.getElem?_map, Option.map_eq_some_iff] at hj
              obtain ⟨⟨i', x⟩, hx, he⟩ := hj
              simp at he
              obtain ⟨rfl, rfl⟩ := he
              have hx' : parts[j]? = some (i', x) := by simpa using hx
              exact ⟨a.eval x, by simp [hx'], h.ev x⟩)
            have hcg := fill_congr (f := fun i => some (i * z, z)) (g := (pl.toArray[·]?)) (parts.map fun x => (x.1, a.eval x.2)).toList C (by
              intro x hx
              simp only [Array.toList_map, List.mem_map] at hx
              obtain ⟨y, hy, rfl⟩ := hx
              have := List.all_eq_true.1 hall (y.1, s.ev y.2) (List.mem_map.2 ⟨y, hy, rfl⟩)
              simp only [decide_eq_true_eq] at this
              exact (hpl2 y.1 (by omega)).symm)
            refine ⟨.agg D, ?_, by unfold VRel; exact ⟨D, rfl, hout⟩⟩
            simp only [execOp, ho, Instr.build, Sem.run_bind, zeroValue, typeInfo, run_program, Result.andThen_ok, hi, Sem.run_pure, hzv, run_underlying hd]
            simp only [hrun, Result.andThen_ok, hzv', Value.cells, hcg, hD, Sem.run_pure]
    · cases hl
  · cases hl

theorem sliceBound_run (k : IntKind) (n : Int) (y : Nat) (code : BoundsCode) (h0 : 0 ≤ n) (h1 : n ≤ y) (w : World) : (Instr.sliceBound (.int k n) y code).run P w = .ok n.toNat w := by
  simp [Instr.sliceBound, asIntOf, h0, h1]

theorem light_slice (h : Sim bm L s a w) (o : Oper) (t : TypeId) (x : Operand) (lo hi : Option Operand) (ho : o.op = .slice t x lo hi none) {v : PV} (hl : light P s o = some v) : ∃ V, (execOp a.eval o).run P w = .ok (.value V) w ∧ VRel bm L w v V := by
  simp only [light, ho, sliceV] at hl
  have hx := h.ev x
  split at hl
  · rename_i i z es he
    rw [he] at hx
    split at hl
    · rename_i e hte
      split at hl
      rotate_left
      · cases hl
      rename_i zz hzz
      split at hl
      · rename_i hzor
        split at hl
        · rename_i l hh hlo hhi
          unfold sliceP at hl
          split at hl
          · rename_i hcond
            obtain ⟨c1, c2, c3⟩ := hcond
            simp at hl; subst hl
            unfold VRel at hx
            obtain ⟨ad, cap, hx, hx'⟩ := hx
            have hd := tslice_spec hte
            have hcap : es.length ≤ cap := by
              rcases hx' with ⟨h0, _⟩ | ⟨b, ob, _, hs, _⟩
              · simp [h0]
              · exact hs.hcap
            have hbounds : (Instr.sliceBounds true es.length cap (lo.map a.eval) (hi.map a.eval) none).run P w = .ok (l.toNat, hh.toNat, cap) w := by
              unfold Instr.sliceBounds
              rcases intOr_spec h hhi with ⟨rfl, rfl⟩ | ⟨y, k, rfl, hy⟩ <;> rcases intOr_spec h hlo with ⟨rfl, rfl⟩ | ⟨y', k', rfl, hy'⟩
              · simp
              · simp [hy', sliceBound_run (P := P) k' l es.length _ c1 (by omega)]
              · simp [hy, sliceBound_run (P := P) k hh cap _ (by omega) (by omega)]
              · simp [hy, hy', sliceBound_run (P := P) k hh cap _ (by omega) (by omega), sliceBound_run (P := P) k' l hh.toNat _ c1 (by omega)]
            refine ⟨.slice (if cap = l.toNat then ad else ad.map (·.add (l.toNat * zz))) (hh.toNat - l.toNat) (cap - l.toNat), ?_, ?_⟩
            · simp only [execOp, ho, Instr.sliceAt, hx, Sem.run_bind, run_underlying hd, Result.andThen_ok, Instr.slice, hbounds, run_sizeOf hzz, Option.map_none, Sem.run_pure]
            · unfold VRel
              have hlen : ((es.drop l.toNat).take (hh.toNat - l.toNat)).length = hh.toNat - l.toNat := by simp; omega
              refine ⟨_, _, by rw [hlen], ?_⟩
              by_cases hce : cap = l.toNat
              · left
                constructor
                · apply List.eq_nil_of_length_eq_zero; rw [hlen]; omega
                · omega
              · rcases hx' with ⟨h0, hc0⟩ | ⟨b, ob, rfl, hs, hE⟩
                · left
                  exact ⟨by subst h0; simp, by omega⟩
                · right
                  have hz' : zz = z ∨ l.toNat = 0 := by
                    rcases hzor with hz' | hz'
                    · exact .inl hz'
                    · right; subst hz'; simp at c3; omega
                  have hmul : l.toNat * zz = l.toNat * z := by rcases hz' with hz' | hz' <;> simp [hz']
                  refine ⟨b, ob + l.toNat * z, by simp [hce, hmul, addr_add], ?_, ?_⟩
                  · obtain ⟨base, hpl, hob⟩ := hs.hpl
                    obtain ⟨C, el, fz, hC, hle⟩ := hs.hrow
                    have hlim := hs.hlim
                    have e1 : l.toNat * z + (hh.toNat - l.toNat) * z = hh.toNat * z := by rw [← Nat.add_mul]; congr 1; omega
                    have e2 : hh.toNat * z ≤ es.length * z := Nat.mul_le_mul_right _ (by omega)
                    have e3 : l.toNat * z + (cap - l.toNat) * z = cap * z := by rw [← Nat.add_mul]; congr 1; omega
                    rw [hlen]
                    exact ⟨hs.hfam, hs.g0, hs.gl, ⟨base, hpl, by simp; omega⟩, by omega, by omega, C, el, fz, hC, by omega⟩
                  · refine ERel.of_get fun j e' hj => ?_
                    rw [List.getElem?_take] at hj
                    split at hj
                    · rw [List.getElem?_drop] at hj
                      have := hE.get _ e' hj
                      refine ⟨this.1, ?_⟩
                      rw [show ob + l.toNat * z + j * z = ob + (l.toNat + j) * z from by rw [Nat.add_mul]; omega]
                      exact this.2
                    · cases hj
          · cases hl
        · cases hl
      · cases hl
    · cases hl
  · cases hl

theorem light_call (h : Sim bm L s a w) (o : Oper) (c : Call) (ho : o.op = .call c) {v : PV} (hl : light P s o = some v) : ∃ V, (execOp a.eval o).run P w = .ok (.value V) w ∧ VRel bm L w v V := by
  obtain ⟨callee, args, ts⟩ := c
  simp only [light, ho] at hl
  split at hl <;> try (cases hl; done)
  all_goals (rename_i heq; try (cases heq; done))
  · simp only [Op.call.injEq, Call.mk.injEq] at heq
    obtain ⟨rfl, rfl, rfl⟩ := heq
    split at hl
    · rename_i x t hargs hts
      have hargs' : args = #[x] := by rw [← hargs]
      have hts' : ts = #[t] := by rw [← hts]
      subst hargs' hts'
      have hx := h.ev x
      unfold lenV at hl
      split at hl
      · rename_i i z es he
        rw [he] at hx
        unfold VRel at hx
        obtain ⟨ad, cap, hx, _⟩ := hx
        split at hl
        · rename_i hsm
          obtain ⟨e, hte⟩ := Option.isSome_iff_exists.1 hsm
          simp at hl; subst hl
          refine ⟨.int .i64 es.length, ?_, by unfold VRel; rfl⟩
          simp [execOp, ho, resolve, invoke, builtin, Builtin.len_, run_underlying (tslice_spec hte), hx, goInt]
        · cases hl
      · split at hl
        · rename_i n e hta
          simp at hl; subst hl
          refine ⟨.int .i64 n, ?_, by unfold VRel; rfl⟩
          simp [execOp, ho, resolve, invoke, builtin, Builtin.len_, run_underlying (tarr_spec hta), goInt]
        · cases hl
    · cases hl
  · simp only [Op.call.injEq, Call.mk.injEq] at heq
    obtain ⟨rfl, rfl, rfl⟩ := heq
    split at hl
    · rename_i x y hargs
      have hargs' : args = #[x, y] := by rw [← hargs]
      subst hargs'
      have hx := h.ev x
      have hy := h.ev y
      unfold maxV at hl
      split at hl
      · rename_i k m k' n hex hey
        rw [hex] at hx; rw [hey] at hy
        simp at hl; subst hl
        refine ⟨_, ?_, by unfold VRel; rfl⟩
        simp [execOp, ho, resolve, invoke, builtin, Builtin.max_, Builtin.max2, hx.int, hy.int]
      · cases hl
    · rename_i x y z hargs
      have hargs' : args = #[x, y, z] := by rw [← hargs]
      subst hargs'
      have hx := h.ev x
      have hy := h.ev y
      have hz := h.ev z
      unfold max3V at hl
      split at hl
      · rename_i k m k' n k'' q hex hey hez
        rw [hex] at hx; rw [hey] at hy; rw [hez] at hz
        simp only [Option.some.injEq] at hl; subst hl
        refine ⟨_, ?_, by unfold VRel; rfl⟩
        simp [execOp, ho, resolve, invoke, builtin, Builtin.max_, Builtin.max2, hx.int, hy.int, hz.int]
      · cases hl
    · cases hl
  · simp only [Op.call.injEq, Call.mk.injEq] at heq
    obtain ⟨rfl, rfl, rfl⟩ := heq
    split at hl
    · rename_i x y hargs
      have hargs' : args = #[x, y] := by rw [← hargs]
      subst hargs'
      have hx := h.ev x
      have hy := h.ev y
      unfold minV at hl
      split at hl
      · rename_i k m k' n hex hey
        rw [hex] at hx; rw [hey] at hy
        simp at hl; subst hl
        refine ⟨_, ?_, by unfold VRel; rfl⟩
        simp [execOp, ho, resolve, invoke, builtin, Builtin.min_, Builtin.min2, hx.int, hy.int]
      · cases hl
    · rename_i x y z hargs
      have hargs' : args = #[x, y, z] := by rw [← hargs]
      subst hargs'
      have hx := h.ev x
      have hy := h.ev y
      have hz := h.ev z
      unfold min3V at hl
      split at hl
      · rename_i k m k' n k'' q hex hey hez
        rw [hex] at hx; rw [hey] at hy; rw [hez] at hz
        simp only [Option.some.injEq] at hl; subst hl
        refine ⟨_, ?_, by unfold VRel; rfl⟩
        simp [execOp, ho, resolve, invoke, builtin, Builtin.min_, Builtin.min2, hx.int, hy.int, hz.int]
      · cases hl
    · cases hl

theorem light_makeFunc (h : Sim bm L s a w) (o : Oper) (fn : Fn) (first caps : Array Operand) (ho : o.op = .makeFunc fn first caps) {v : PV} (hl : light P s o = some v) : ∃ V, (execOp a.eval o).run P w = .ok (.value V) w ∧ VRel bm L w v V := by
  simp only [light, ho] at hl
  split at hl <;> try (cases hl; done)
  all_goals (rename_i heq; try (cases heq; done))
  simp only [Op.makeFunc.injEq] at heq
  obtain ⟨rfl, rfl, rfl⟩ := heq
  split at hl
  · rename_i f hsz
    simp at hl; subst hl
    have hf : first = #[] := by simpa using hsz
    subst hf
    refine ⟨.func (.func f) #[] (caps.map a.eval), ?_, ?_⟩
    · simp [execOp, ho, Instr.makeFunc]
    · unfold VRel
      refine ⟨_, rfl, LRel.of_get (by simp) fun j c v hc hv => ?_⟩
      simp only [List.getElem?_map, Option.map_eq_some_iff, Array.getElem?_toList] at hc
      obtain ⟨x, hx, rfl⟩ := hc
      simp [hx] at hv
      subst hv
      exact h.ev x
  · cases hl

theorem light_nilCheck (h : Sim bm L s a w) (o : Oper) (x : Operand) (ho : o.op = .nilCheck x) {v : PV} (hl : light P s o = some v) : ∃ V, (execOp a.eval o).run P w = .ok (.value V) w ∧ VRel bm L w v V := by
  simp only [light, ho, checkV] at hl
  have hx := h.ev x
  split at hl
  · rename_i k off he
    simp at hl; subst hl
    rw [he] at hx
    have hx' := hx
    unfold VRel at hx'
    obtain ⟨b, _, hx'⟩ := hx'
    exact ⟨a.eval x, by simp [execOp, ho, hx'], hx⟩
  · rename_i i z es j c he
    simp at hl; subst hl
    rw [he] at hx
    have hx' := hx
    unfold VRel at hx'
    obtain ⟨b, ob, cap, hx', _⟩ := hx'
    exact ⟨a.eval x, by simp [execOp, ho, hx'], hx⟩
  · cases hl

theorem light_sound (h : Sim bm L s a w) (o : Oper) {v : PV} (hl : light P s o = some v) : ∃ V, (execOp a.eval o).run P w = .ok (.value V) w ∧ VRel bm L w v V := by
  cases ho : o.op
  case move x => simp only [light, ho, Option.some.injEq] at hl; subst hl; exact light_move h o x (.inl ho)
  case assign x => simp only [light, ho, Option.some.injEq] at hl; subst hl; exact light_move h o x (.inr ho)
  case pick c x y =>
    simp only [light, ho, pickV] at hl
    have hc := h.ev c
    split at hl
    · rename_i t he
      rw [he] at hc
      simp at hl; subst hl
      refine ⟨if t then a.eval x else a.eval y, by simp [execOp, ho, hc.bool, asBool], ?_⟩
      cases t
      · simpa using h.ev y
      · simpa using h.ev x
    · cases hl
  case load t x => exact light_load h o t x ho hl
  case fieldAddr t x f => exact light_fieldAddr h o t x f ho hl
  case indexAddr t x ix => exact light_indexAddr h o t x ix ho hl
  case index t x ix => exact light_index h o t x ix ho hl
  case field t x f => exact light_field h o t x f ho hl
  case binOp op t x y yt =>
    simp only [light, ho] at hl
    obtain ⟨V, hV, hr⟩ := binPV_run hl (h.ev x) (h.ev y) x y
    exact ⟨V, by simp only [execOp, ho, Sem.run_bind, Sem.run_pure] at hV ⊢; rw [hV]; rfl, hr⟩
  case unOp op t x =>
    simp only [light, ho] at hl
    obtain ⟨V, hV, hr⟩ := unPV_run (P := P) hl (h.ev x)
    exact ⟨V, by simp [execOp, ho, hV], hr⟩
  case convert src dst x => exact light_convert h o src dst x ho hl
  case extract t ix => exact light_extract h o t ix ho hl
  case build t parts => exact light_build h o t parts ho hl
  case slice t x lo hi mx =>
    cases mx with
    | none => exact light_slice h o t x lo hi ho hl
    | some m => simp [light, ho] at hl
  case call c => exact light_call h o c ho hl
  case makeFunc fn first caps => exact light_makeFunc h o fn first caps ho hl
  case nilCheck x => exact light_nilCheck h o x ho hl
  all_goals (simp [light, ho] at hl)
end
end Go.Proofs.YtphndngifjgeoaaGreatDoor

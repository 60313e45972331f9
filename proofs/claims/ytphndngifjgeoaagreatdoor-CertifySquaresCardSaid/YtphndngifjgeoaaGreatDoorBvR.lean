/- The by-value logic, part R: a function that looks into a map behind its first statement: whatever stands there, it comes to one answer; for every program. -/
import Derived.Test.YtphndngifjgeoaaGreatDoorBvP
set_option linter.unusedVariables false
set_option linter.unusedSimpArgs false
namespace Go.Proofs.YtphndngifjgeoaaGreatDoor
section
variable {P : Program}

def lkK (P : Program) (d : Option Tmp) (op : Op) (g : Option (Tmp × Bool)) (K : St → Prop) (s : St) : Prop :=
  match op with
  | .lookup t m x true => g = none ∧ okDst s d ∧ mapT P t ∧ ∃ I p q, s.ev m = .map I ∧ s.ev x = .agg [.int .i64 p, .int .i64 q] ∧ ∀ n ok, (ok = true → I p q n) → K (s.put d (.tup [.int .i64 n, .bool ok]))
  | _ => gC g s (PStepC P false d op K s) (okDst s d ∧ K (s.put d (.tup [])))
/-- A statement's operations, lookups among them. -/
def PSeqN (P : Program) : List Cop → (St → Prop) → St → Prop
  | [], K, s => K s
  | c :: cs, K, s => lkK P c.d c.op c.g (PSeqN P cs K) s

theorem lookup_wp {bm : List Nat} {L : Lay} {s : St} {a : Act} {w : World} (h : Sim bm L s a w) (o : Oper) (t : TypeId) (m x : Operand) (ho : o.op = .lookup t m x true) (hd : okDst s o.dst) (ht : mapT P t) {I : MInv} {p q : Int} (hm : s.ev m = .map I) (hx : s.ev x = .agg [.int .i64 p, .int .i64 q]) {K : St → Prop}
    (hK : ∀ n ok, (ok = true → I p q n) → K (s.put o.dst (.tup [.int .i64 n, .bool ok]))) (Q : Exit → Act → World → Prop) : o.wp P a w (Goes bm L s w K) Q := by
  have hm' := h.ev m
  have hk' := h.ev x
  rw [hm] at hm'
  rw [hx] at hk'
  have hkv : a.eval x = .agg #[.int .i64 p, .int .i64 q] := by
    unfold VRel at hk'
    obtain ⟨C, e, hC⟩ := hk'
    unfold LRel at hC
    obtain ⟨v1, r1, e1, g1, hC⟩ := hC
    unfold LRel at hC
    obtain ⟨v2, r2, e2, g2, hC⟩ := hC
    unfold LRel at hC
    subst hC
    have f1 := g1.int
    have f2 := g2.int
    subst f1; subst f2
    rw [e2] at e1
    rw [e]
    congr 1
    exact Array.toList_inj.1 (by simpa using e1)
  obtain ⟨n, ok, hr, hI⟩ := lookup_run ht h.base hm' (p := p) (q := q)
  refine value_wp o Q (V := .tuple #[.int .i64 n, .bool ok]) (w' := w) ?_ (goes_put h (Gua.refl bm s.n0 s.D L w) rfl (fun _ hf => hf) hd (v := .tup [.int .i64 n, .bool ok]) ?_ (hK n ok hI))
  · simp [execOp, ho, hkv, hr]
  · unfold VRel
    exact ⟨_, rfl, by simp [LRel, VRel]⟩

theorem seqN_sound {ops : Array Oper} {K : St → Prop} {Q : Exit → Act → World → Prop} : ∀ (l : List Oper) (k : Nat) {cs : List Cop}, ops.toList.drop k = l → compOps ops l = some cs → ∀ {bm : List Nat} {L : Lay} {s : St} {a : Act} {w : World}, Sim bm L s a w → PSeqN P cs K s →
    (∀ a' w', Goes bm L s w K a' w' → Q .normal a' w') → wpOps P ops Q (List.range' k l.length) a w
  | [], k, cs, _, hc, bm, L, s, a, w, h, hp, hq => by
    simp [compOps] at hc; subst hc
    simp only [List.length_nil, List.range'_zero, wpOps]
    exact hq a w ⟨bm, L, s, h, Gua.refl bm s.n0 s.D L w, rfl, fun _ hf => hf, hp⟩
  | o :: os, k, cs, hl, hc, bm, L, s, a, w, h, hp, hq => by
    have hk : ops[k]? = some o := by
      have : (ops.toList.drop k)[0]? = some o := by rw [hl]; rfl
      simpa using this
    have hd : ops.toList.drop (k + 1) = os := by
      have : (ops.toList.drop k).tail = os := by rw [hl]; rfl
      simpa [List.tail_drop] using this
    simp only [List.length_cons, List.range'_succ]
    rw [wpOps_cons]
    simp only [compOps] at hc
    split at hc
    · cases hc
    · rename_i cs' hcs'
      suffices hs : wpOp P ops Q k (Goes bm L s w (PSeqN P cs' K)) a w by
        refine wpOp_mono (fun a' w' hg => ?_) hs
        obtain ⟨bm', L', s', h1, h2, h3, h4, h5⟩ := hg
        exact seqN_sound os (k + 1) hd hcs' h1 h5 fun a'' w'' hg' => hq a'' w'' (Goes.trans h.base h2 h3 h4 hg')
      have key : ∀ (g : Option (Tmp × Bool)), cs = ⟨o.dst, o.op, g⟩ :: cs' → (gC g s (PStepC P false o.dst o.op (PSeqN P cs' K) s) (okDst s o.dst ∧ PSeqN P cs' K (s.put o.dst (.tup []))) → PI P false ops k (PSeqN P cs' K) s) → wpOp P ops Q k (Goes bm L s w (PSeqN P cs' K)) a w := by
        intro g hcs hpi
        subst hcs
        simp only [PSeqN] at hp
        unfold lkK at hp
        split at hp
        · rename_i t m x ho
          obtain ⟨hg, h1, h2, I, p, q, h3, h4, h5⟩ := hp
          subst hg
          unfold wpOp
          simp only [hk]
          split at hc
          · rename_i hg
            have : Region.wanted o (yielded ops a.tmps) = true := guard_wanted h (by simp [guardP, hg])
            rw [this]
            exact .inl (lookup_wp h o t m x ho h1 h2 h3 h4 h5 Q)
          · split at hc <;> simp at hc
        · exact pi_sound h (hpi hp) Q
      split at hc
      · rename_i hg
        simp at hc
        refine key none hc.symm fun h => ?_
        simp only [gC_none] at h
        simp only [PI, hk, guardP, hg]
        exact h
      · rename_i j w' hg
        split at hc
        · rename_i t ht
          simp at hc
          refine key (some (t, w')) hc.symm fun h => ?_
          simp only [gC_some] at h
          obtain ⟨hlt, h⟩ := h
          simp only [PI, hk, guardP, hg, ht, hlt, if_true]
          unfold pg at h
          split at h
          · rename_i b hb
            simp only [hb]
            split at h
            · rename_i hbw
              simp only [hbw]
              exact h
            · rename_i hbw
              simp only [Bool.not_eq_true] at hbw
              simp only [hbw]
              exact h
          · rename_i hb
            simp only [hb]
            exact h
          · exact h.elim
        · cases hc

/-- What holds at the end of a function that comes to v, and needs no name behind n'. -/
def finN (P : Program) (res : List ResultVar) (n : Nat) (v : PV) (n' : Nat) (e : PExit) (s : St) : Prop :=
  (match e with | .exit _ => False | _ => True) ∧ rz (resP P s res) fun vs => resV vs = v ∧ (resV vs).closedR = true ∧ n ≤ s.next ∧ s.next ≤ n' ∧ s.D = []
@[simp ↓] theorem finN_ret {s : St} {res : List ResultVar} {n n' : Nat} {v : PV} : finN P res n v n' .ret s = rz (resP P s res) fun vs => resV vs = v ∧ (resV vs).closedR = true ∧ n ≤ s.next ∧ s.next ≤ n' ∧ s.D = [] := by simp [finN]
@[simp ↓] theorem finN_normal {s : St} {res : List ResultVar} {n n' : Nat} {v : PV} : finN P res n v n' .normal s = rz (resP P s res) fun vs => resV vs = v ∧ (resV vs).closedR = true ∧ n ≤ s.next ∧ s.next ≤ n' ∧ s.D = [] := by simp [finN]

/-- More names than need be. -/
def Lay.raise (L : Lay) (n : Nat) : Lay := { L with nx := n }
theorem VRel.raise {bm : List Nat} {L : Lay} {w : World} {n : Nat} (hn : L.nx ≤ n) {p : PV} {v : Value} (h : VRel bm L w p v) : VRel bm (L.raise n) w p v :=
  VRel.pres0 (L := L) (L' := L.raise n) (w := w) (w' := w) (bm := bm) (bm' := bm) ⟨fun _ _ h => h, hn, fun _ _ => rfl, fun _ _ h => h, fun _ _ _ => Nat.le_refl _, fun _ _ _ _ _ _ => rfl, fun _ _ _ C _ _ h => ⟨C, h, rfl⟩, fun _ _ h => h⟩ h

theorem comp_seq {c : Code} {a b : CC} (h : comp c = some (.seq a b)) : ∃ x y, c = .seq x y ∧ comp x = some a ∧ comp y = some b := by
  cases c <;> simp [comp] at h
  case seq x y =>
    split at h
    · rename_i a' b' ha hb
      simp at h
      obtain ⟨rfl, rfl⟩ := h
      exact ⟨x, y, rfl, ha, hb⟩
    · cases h
  case region id ops dr =>
    split at h <;> simp at h
  case cond c x y =>
    split at h <;> simp at h
theorem comp_reg {c : Code} {l : List Cop} (h : comp c = some (.reg false l)) : ∃ id ops, c = .region id ops false ∧ compOps ops ops.toList = some l := by
  cases c <;> simp [comp] at h
  case region id ops dr =>
    split at h
    · simp at h
    · simp at h
      obtain ⟨h1, rfl⟩ := h
      exact ⟨id, ops, rfl, h1⟩
  case seq x y =>
    split at h <;> simp at h
  case cond c x y =>
    split at h <;> simp at h

/-- A function's contract, where its second statement looks into a map. -/
theorem PCall.of_lookup (hm : P.follows .mixedOrders = true) {f : FuncId} {fn : Func} {c : Code} {r0 r1 : List Cop} {cr : CC} (hf : P.funcs[f]? = some fn) (hb : fn.body = some c) (hok : codeOk c = true) (hcc : comp c = some (.seq (.reg false r0) (.seq (.reg false r1) cr))) (nt : Nat) (hnt : fn.ntmps = nt) (res : List ResultVar) (hres : fn.results.toList = res)
    {args : List PV} {n : Nat} (hn : 0 < n) {Q : PV → Nat → List Nat → Prop} (v : PV) (n' : Nat) (hnn : n ≤ n') (hq : Q v n' []) (h : PSeqN P r0 (PSeqN P r1 (GO P cr (finN P res n v n'))) (St.enter nt args n)) : PCall P f args n Q := by
  subst hnt; subst hres
  refine ⟨v, n', [], fun L w A hL hbase hargs => ?_, hnn, hq⟩
  obtain ⟨x, y, rfl, hx, hy⟩ := comp_seq hcc
  obtain ⟨i0, ops0, rfl, ho0⟩ := comp_reg hx
  obtain ⟨x, z, rfl, hx1, hz⟩ := comp_seq hy
  obtain ⟨i1, ops1, rfl, ho1⟩ := comp_reg hx1
  have hokz : codeOk z = true := by
    simp only [codeOk, Bool.and_eq_true] at hok
    exact hok.2.2
  have hlen := hargs.length
  have hsim : Sim [] L (St.enter fn.ntmps args n) { tmps := A.toArray ++ Array.replicate (fn.ntmps - A.toArray.size) undef, defers := [] } w := by
    refine ⟨fun t => ?_, by simp [St.enter, hlen], rfl, hL, hbase, rfl, by simp, fun k b cs hk => by simp at hk, fun x y hx => by simp [St.enter] at hx, fun g f T hT => by simp [St.enter] at hT, ⟨hn, Nat.le_refl _⟩⟩
    simp only [St.enter]
    by_cases ht : t < args.length
    · obtain ⟨u, hu, hr⟩ := hargs.get t _ (List.getElem?_eq_getElem ht)
      have h1 : args.getD t (.tup []) = args[t] := by simp [List.getD, ht]
      have hlt : t < A.length := by omega
      have h2 : (A.toArray ++ Array.replicate (fn.ntmps - A.toArray.size) undef).getD t undef = u := by
        rw [Array.getD_eq_getD_getElem?, Array.getElem?_append_left (by simpa using hlt)]
        simp [hu]
      rw [h1, h2]; exact hr
    · have h1 : args.getD t (.tup []) = .tup [] := by simp [List.getD, List.getElem?_eq_none (Nat.le_of_not_lt ht)]
      have h2 : (A.toArray ++ Array.replicate (fn.ntmps - A.toArray.size) undef).getD t undef = undef := by
        rw [Array.getD_eq_getD_getElem?, Array.getElem?_append_right (by simp; omega)]
        by_cases h3 : t - A.length < fn.ntmps - A.length <;> simp [h3]
      rw [h1, h2]; exact undef_rel [] L w
  refine calls_of_wp hf hb (wp_seq ?_)
  refine wp_region ?_
  rw [List.range_eq_range', show ops0.size = ops0.toList.length by simp]
  refine seqN_sound ops0.toList 0 (by simp) ho0 hsim h fun a1 w1 hg1 => ?_
  obtain ⟨bm1, L1, s1, hs1, gu1, hn1, hD1, h1⟩ := hg1
  refine wp_seq (wp_region ?_)
  rw [List.range_eq_range', show ops1.size = ops1.toList.length by simp]
  refine seqN_sound ops1.toList 0 (by simp) ho1 hs1 h1 fun a2 w2 hg2 => ?_
  have hg2' := Goes.trans hbase gu1 hn1 hD1 hg2
  obtain ⟨bm2, L2, s2, hs2, gu2, hn2, hD2, h2⟩ := hg2'
  obtain ⟨e, s3, hx3, he, hfin⟩ := pw_sound hm z hokz _ _ (comp_sound z hz _ _ h2)
  refine wp_mono (hx3 bm2 L2 a2 w2 hs2) ?_
  rintro E a' w' ⟨rfl, hg3⟩
  have hg3' := Goes.trans hbase gu2 hn2 hD2 hg3
  obtain ⟨bm', L', s4, k1, k2, k3, k4, rfl⟩ := hg3'
  obtain ⟨vs, hvs, hv, hcl, hle, hle', hDn⟩ := hfin
  have key : a'.defers = [] ∧ ∃ v', (results fn a'.tmps).run P w' = .ok v' w' ∧ ∃ (L' : Lay) (V : Value), Ending.returned v' = .returned V ∧ VRel [] L' w' v V ∧ L'.nx = n' ∧ Base L' w' ∧ Gua [] [] n [] L w L' w' := by
    refine ⟨k1.defers, ?_⟩
    obtain ⟨us, hus, hl⟩ := resP_run k1 fn.results.toList vs hvs
    have hll := hl.length
    have hrun : (results fn a'.tmps).run P w' = .ok (if h : us.toArray.size = 1 then us.toArray[0] else .tuple us.toArray) w' := by
      unfold results
      rw [Array.mapM_eq_mapM_toList, Sem.run_bind, Sem.run_map]
      erw [hus]
      rfl
    have hnx := k1.nx
    rw [hDn] at k2
    refine ⟨_, hrun, L'.raise n', _, rfl, ?_, rfl, ⟨by simp only [Lay.raise]; have := k1.base.pos; omega, fun b f hf => ⟨by have := (k1.base.fam b f hf).1; simp only [Lay.raise]; omega, (k1.base.fam b f hf).2⟩, k1.base.own, k1.base.tab, k1.base.mp⟩, ⟨k2.size, k2.os, k2.tape, k2.output, by have := k2.nx; simp only [Lay.raise]; omega, k2.pl, k2.fam, k2.lim, fun b hb hf hm hq => k2.old b hb hf (by simp) hq, k2.row, fun _ _ h => by simp at h, fun _ h => by simp at h, k2.mp⟩⟩
    rw [← hv]
    refine VRel.raise (by omega) (VRel.openR hcl (bm := bm') ?_)
    match vs, us, hl, hll with
    | [], [], hl, _ => simp [resV]; exact undef_rel bm' L' w'
    | [v], [u], hl, _ =>
      unfold LRel at hl
      obtain ⟨_, _, e, hr, _⟩ := hl
      cases e
      simpa [resV] using hr
    | v :: v2 :: vs, u :: u2 :: us, hl, _ =>
      simp only [resV, List.size_toArray, List.length_cons]
      rw [dif_neg (by omega)]
      unfold VRel
      exact ⟨_, rfl, hl⟩
  cases e with
  | normal => exact key
  | ret => exact key
  | exit id => exact he.elim

@[simp ↓] theorem PSeqN_nil {K : St → Prop} {s : St} : PSeqN P [] K s = K s := nrfl rfl
@[simp ↓] theorem PSeqN_lookup {K : St → Prop} {s : St} {d : Option Tmp} {t : TypeId} {m x : Operand} {cs : List Cop} : PSeqN P (⟨d, .lookup t m x true, none⟩ :: cs) K s ↔ okDst s d ∧ mapT P t ∧ ∃ I p q, s.ev m = .map I ∧ s.ev x = .agg [.int .i64 p, .int .i64 q] ∧ ∀ n ok, (ok = true → I p q n) → PSeqN P cs K (s.put d (.tup [.int .i64 n, .bool ok])) := by
  simp [PSeqN, lkK]
def notLk : Op → Bool
  | .lookup _ _ _ _ => false
  | _ => true
theorem PSeqN_cons {K : St → Prop} {s : St} {d : Option Tmp} {op : Op} {g : Option (Tmp × Bool)} {cs : List Cop} (h : notLk op = true) : PSeqN P (⟨d, op, g⟩ :: cs) K s = gC g s (PStepC P false d op (PSeqN P cs K) s) (okDst s d ∧ PSeqN P cs K (s.put d (.tup []))) := by
  cases op <;> first | rfl | simp [notLk] at h
@[simp ↓] theorem PS_makeMap {dr : Bool} {d : Option Tmp} {K : St → Prop} {s : St} (t : TypeId) : PStepC P dr d (.makeMap t none) K s ↔ okDst s d ∧ ∃ I : MInv, K (s.put d (.map I)) := Iff.rfl
@[simp ↓] theorem PS_mapUpdate {dr : Bool} {d : Option Tmp} {K : St → Prop} {s : St} (t : TypeId) (m k x : Operand) : PStepC P dr d (.mapUpdate t m k x) K s ↔ okDst s d ∧ ∃ (I : MInv) (p q n : Int), mapT P t ∧ s.ev m = .map I ∧ s.ev k = .agg [.int .i64 p, .int .i64 q] ∧ s.ev x = .int .i64 n ∧ I p q n ∧ K (s.put d (.tup [])) := Iff.rfl
end
end Go.Proofs.YtphndngifjgeoaaGreatDoor

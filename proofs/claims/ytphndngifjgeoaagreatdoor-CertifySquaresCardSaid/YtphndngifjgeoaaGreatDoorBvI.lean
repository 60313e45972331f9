/- The by-value logic, part I: calls, and that every pure step is the model's; for every program. -/
import Derived.Test.YtphndngifjgeoaaGreatDoorBvQ
import Derived.Laws.Externs
set_option linter.unusedVariables false
set_option linter.unusedSimpArgs false
namespace Go.Proofs.YtphndngifjgeoaaGreatDoor
section
variable {P : Program} {bm : List Nat} {L : Lay} {s : St} {a : Act} {w : World}

/-- What a step leaves: memory as a pure state says that fulfils K. -/
def Goes (bm : List Nat) (L : Lay) (s : St) (w : World) (K : St → Prop) (a' : Act) (w' : World) : Prop :=
  ∃ bm' L' s', Sim bm' L' s' a' w' ∧ Gua bm bm' s.n0 s'.D L w L' w' ∧ s'.n0 = s.n0 ∧ (∀ f, f ∈ s.D → f ∈ s'.D) ∧ K s'

theorem Goes.mono {K K' : St → Prop} (hk : ∀ s', K s' → K' s') {a' : Act} {w' : World} (h : Goes bm L s w K a' w') : Goes bm L s w K' a' w' :=
  let ⟨bm', L', s', h1, h2, h3, h4, h5⟩ := h; ⟨bm', L', s', h1, h2, h3, h4, hk _ h5⟩

/-- One step behind another. -/
theorem Goes.trans {K : St → Prop} (hb : Base L w) {bm₁ : List Nat} {L₁ : Lay} {s₁ : St} {w₁ : World} (hg : Gua bm bm₁ s.n0 s₁.D L w L₁ w₁) (hn : s₁.n0 = s.n0) (hD : ∀ f, f ∈ s.D → f ∈ s₁.D) {a' : Act} {w' : World} (h : Goes bm₁ L₁ s₁ w₁ K a' w') : Goes bm L s w K a' w' := by
  obtain ⟨bm', L', s', h1, h2, h3, h4, h5⟩ := h
  rw [hn] at h2
  exact ⟨bm', L', s', h1, Gua.trans hb (hg.mono h4) h2, h3.trans hn, fun f hf => h4 f (hD f hf), h5⟩

theorem put_n0 (s : St) (d : Option Tmp) (v : PV) : (s.put d v).n0 = s.n0 := by cases d <;> rfl
theorem put_D (s : St) (d : Option Tmp) (v : PV) : (s.put d v).D = s.D := by cases d <;> rfl
theorem put_nt (s : St) (d : Option Tmp) (v : PV) : (s.put d v).nt = s.nt := by cases d <;> rfl

/-- A value put behind a step. -/
theorem goes_put {K : St → Prop} {bm' : List Nat} {L' : Lay} {s' : St} {w' : World} (h : Sim bm' L' s' a w') (hg : Gua bm bm' s.n0 s'.D L w L' w') (hn : s'.n0 = s.n0) (hD : ∀ f, f ∈ s.D → f ∈ s'.D) {d : Option Tmp} (hd : ∀ x, d = some x → x < s'.nt) {v : PV} {V : Value} (hv : VRel bm' L' w' v V) (hk : K (s'.put d v)) :
    Goes bm L s w K (a.put d V) w' :=
  ⟨bm', L', s'.put d v, h.put hd hv, by rw [put_D]; exact hg, (put_n0 s' d v).trans hn, fun f hf => by rw [put_D]; exact hD f hf, hk⟩

theorem callPres {n : Nat} {D : List Nat} {L' : Lay} {w' : World} (hb : Base L w) (hn : L.nx = n) (hg : Gua [] [] n D L w L' w') : Pres bm L w bm L' w' D := by
  refine ⟨fun _ _ h => h, hg.nx, hg.pl, ?_, ?_, ?_, hg.row, fun b I hI => by rw [hg.mp b (hb.mlt hI)]; exact hI⟩
  · intro b f hf; rw [hg.fam b (hb.fam b f hf).2]; exact hf
  · intro b f hf; rw [hg.lim b f hf (by rw [← hn]; exact (hb.fam b f hf).1)]; exact Nat.le_refl _
  · intro b f hf hnf off _
    refine cell_of_heap (hg.old b (hb.fam b f hf).2 (fun f' hf' => ?_) (by simp) (hb.nofam hf))
    rw [hf] at hf'; cases hf'
    exact ⟨by rw [← hn]; exact (hb.fam b f hf).1, hnf⟩

theorem after_slots (s : St) (n : Nat) (D : List Nat) (t : Nat) : (s.after n D).slots t = (s.slots t).poison D := by
  cases D with
  | nil => simp [St.after, PV.poison_nil]
  | cons d D => rfl
theorem after_boxes (s : St) (n : Nat) (D : List Nat) : (s.after n D).boxes = s.boxes.map (PV.poisonL D) := by
  cases D with
  | nil => simp [St.after, funext PV.poisonL_nil]
  | cons d D => rfl
theorem after_next (s : St) (n : Nat) (D : List Nat) : (s.after n D).next = n := by cases D <;> rfl
theorem after_tips (s : St) (n : Nat) (D : List Nat) : (s.after n D).tips = s.tips := by cases D <;> rfl
theorem after_nt (s : St) (n : Nat) (D : List Nat) : (s.after n D).nt = s.nt := by cases D <;> rfl
theorem after_n0 (s : St) (n : Nat) (D : List Nat) : (s.after n D).n0 = s.n0 := by cases D <;> rfl
theorem after_D (s : St) (n : Nat) (D : List Nat) : ∀ f, f ∈ (s.after n D).D ↔ (f ∈ s.D ∨ f ∈ D) := by
  intro f; cases D with
  | nil => simp [St.after]
  | cons d D => simp [St.after]

theorem call_sim (h : Sim bm L s a w) {n' : Nat} {D : List Nat} {L' : Lay} {w' : World} (hnn : s.next ≤ n') (hg : Gua [] [] s.next D L w L' w') (hb' : Base L' w') (hn' : L'.nx = n') :
    Sim bm L' (s.after n' D) a w' ∧ Gua bm bm s.n0 (s.after n' D).D L w L' w' := by
  have hp : Pres bm L w bm L' w' D := callPres h.base h.nx hg
  have hn0 := h.n0
  constructor
  · refine ⟨fun t => ?_, by rw [after_nt]; exact h.nt, h.defers, by rw [after_next]; exact hn', hb', by rw [after_boxes]; simpa using h.bml, h.bmn, ?_, ?_, ?_, by rw [after_n0, after_next]; exact ⟨hn0.1, by omega⟩⟩
    · rw [after_slots]; exact VRel.pres _ bm bm hp _ (h.slots t)
    · intro k b cs hbk hcs
      rw [after_boxes, List.getElem?_map, Option.map_eq_some_iff] at hcs
      obtain ⟨cs0, hcs0, rfl⟩ := hcs
      obtain ⟨g1, C, el, g2, g3, g4⟩ := h.boxes k b cs0 hbk hcs0
      have hlt := h.block_lt hbk
      refine ⟨by rw [hg.fam b hlt]; exact g1, C, el, ?_, LRel.pres _ bm bm hp _ g3, g4⟩
      rw [hg.old b hlt (fun f hf => by rw [g1] at hf; cases hf) (by simp) (h.base.nomap g2)]
      exact g2
    · intro x y hx hy hxy
      rw [after_tips] at hx hy
      obtain ⟨k1, _⟩ := h.tips x.1 x.2.1 x.2.2 hx
      obtain ⟨k2, _⟩ := h.tips y.1 y.2.1 y.2.2 hy
      rw [hg.pl _ k1, hg.pl _ k2] at hxy
      exact h.tipsN x y hx hy hxy
    · intro g f T hT
      rw [after_tips] at hT
      obtain ⟨k1, k2, b, base, k3, k4, k5, k6⟩ := h.tips g f T hT
      have hnx := hg.nx
      exact ⟨by omega, by omega, b, base, by rw [hg.pl g k1]; exact k3, by rw [hg.fam b (h.base.fam b f k4).2]; exact k4, by rw [after_n0]; exact k5, by rw [hg.lim b f k4 (by rw [← h.nx]; exact k2)]; exact k6⟩
  · refine ⟨hg.size, hg.os, hg.tape, hg.output, hg.nx, hg.pl, hg.fam, fun b f hf hlt => hg.lim b f hf (by omega), ?_, hg.row, fun _ _ h => h, fun _ h => .inl h, hg.mp⟩
    intro b hlt hfb _ hq
    refine hg.old b hlt (fun f hf => ?_) (by simp) hq
    obtain ⟨k1, k2⟩ := hfb f hf
    exact ⟨by omega, fun hD => k2 ((after_D s n' D f).2 (.inr hD))⟩

theorem call_sound (h : Sim bm L s a w) (o : Oper) (f : Operand) (args : Array Operand) (ts : Array TypeId) (ho : o.op = .call { callee := .value f, args := args, argTypes := ts }) {g : FuncId} {fn : Func} (hf : s.ev f = .fn g []) (hfn : P.funcs[g]? = some fn) (hbody : fn.body.isSome = true) (hname : (fn.name == "runtime.NumGoroutine") = false)
    (hcl : (args.toList.all fun x => (s.ev x).closed) = true) (hd : ∀ d, o.dst = some d → d < s.nt) {K : St → Prop}
    (hp : PCall P g (args.toList.map s.ev) s.next fun v n D => K ((s.after n D).put o.dst v)) (Q : Exit → Act → World → Prop) :
    o.wp P a w (Goes bm L s w K) Q := by
  obtain ⟨v, n', D, hgv, hnn, hK⟩ := hp
  have hfv := h.ev f
  rw [hf] at hfv
  unfold VRel at hfv
  obtain ⟨C, hfv, hC⟩ := hfv
  have hC0 : C = #[] := by simpa [LRel] using hC
  subst hC0
  have hargs : LRel [] L w (args.toList.map s.ev) (args.map a.eval).toList := by
    refine LRel.of_get (by simp) fun j c v hc hv => ?_
    simp only [List.getElem?_map, Option.map_eq_some_iff] at hc
    obtain ⟨x, hx, rfl⟩ := hc
    have hx' : args[j]? = some x := by simpa using hx
    simp [hx'] at hv
    subst hv
    exact (h.ev x).open (List.all_eq_true.1 hcl x (List.mem_of_getElem? hx))
  have hrun : (execOp a.eval o).run P w = .ok (.enter g (args.map a.eval)) w := by
    have hn : fn.name ≠ "runtime.NumGoroutine" := by simpa using hname
    have hb' : fn.body ≠ none := fun e => by simp [e] at hbody
    simp [execOp, ho, resolve, hfv, Deferred.ofValue, invoke, callFunc, hfn, hn, hb']
  have hcalls := hgv L w (args.map a.eval).toList h.nx h.base hargs
  unfold Oper.wp
  rw [hrun, Oper.upon_enter]
  rw [Array.toArray_toList] at hcalls
  refine hcalls.mono fun e w' hpost => ?_
  obtain ⟨L', V, rfl, hV, hn', hb', hg⟩ := hpost
  obtain ⟨hS, hG⟩ := call_sim h hnn hg hb' hn'
  exact goes_put hS hG (after_n0 s n' D) (fun f hf => (after_D s n' D f).2 (.inl hf)) (by rw [after_nt]; exact hd) (VRel.shut L' w' bm v V hV) hK

theorem ext_run (h : Sim bm L s a w) (o : Oper) (f : Operand) (args : Array Operand) (ts : Array TypeId) (ho : o.op = .call { callee := .value f, args := args, argTypes := ts }) {g : FuncId} (hf : s.ev f = .fn g []) {v : PV}
    (hv : extV P g (args.toList.map s.ev) v) : ∃ V, (execOp a.eval o).run P w = .ok (.value V) w ∧ VRel bm L w v V := by
  have hfv := h.ev f
  rw [hf] at hfv
  unfold VRel at hfv
  obtain ⟨C, hfv, hC⟩ := hfv
  have hC0 : C = #[] := by simpa [LRel] using hC
  subst hC0
  have key : ∀ (x : PV) (e : Array Value → Sem Value), isExt P g e → args.toList.map s.ev = [x] → ∃ y, args = #[y] ∧ VRel bm L w x (a.eval y) ∧ (execOp a.eval o).run P w = ((e #[a.eval y]).run P w).andThen fun v w' => .ok (.value v) w' := by
    intro x e he hx
    obtain ⟨fn, h1, h2, h3, h4, h5⟩ := he
    obtain ⟨y, hy, rfl⟩ : ∃ y, args.toList = [y] ∧ s.ev y = x := by
      cases hl : args.toList with
      | nil => simp [hl] at hx
      | cons y l =>
        cases l with
        | nil => simp [hl] at hx; exact ⟨y, rfl, hx⟩
        | cons z l => simp [hl] at hx
    have hy' : args = #[y] := by rw [← hy]
    subst hy'
    refine ⟨y, rfl, h.ev y, ?_⟩
    have := Go.run_callFunc_extern h1 h2 h3 h4 h5 #[a.eval y] w
    simp only [execOp, ho, resolve, hfv, Deferred.ofValue, invoke, Sem.run_bind, Sem.run_pure, Result.andThen_ok]
    simpa using this
  rcases hv with ⟨he, b, hl, rfl⟩ | ⟨he, n, hl, rfl⟩
  · obtain ⟨y, rfl, hr, hrun⟩ := key _ _ he hl
    unfold VRel at hr
    rw [hrun, hr]
    exact ⟨.int .u64 b, rfl, by unfold VRel; rfl⟩
  · obtain ⟨y, rfl, hr, hrun⟩ := key _ _ he hl
    unfold VRel at hr
    rw [hrun, hr]
    exact ⟨.float .f64 n.toNat, rfl, by unfold VRel; rfl⟩

theorem clo_sound (h : Sim bm L s a w) (o : Oper) (f : Operand) (args : Array Operand) (ts : Array TypeId) (ho : o.op = .call { callee := .value f, args := args, argTypes := ts }) {g : FuncId} {fn : Func} {caps : List PV} (hf : s.ev f = .fn g caps) (hfn : P.funcs[g]? = some fn) (hbody : fn.body.isSome = true) (hname : (fn.name == "runtime.NumGoroutine") = false)
    (hd : ∀ d, o.dst = some d → d < s.nt) {K : St → Prop}
    (hp : PCallB P g (args.toList.map s.ev ++ caps) s.boxes s.next fun v bx n => K ((s.afterB bx n).put o.dst v)) (Q : Exit → Act → World → Prop) :
    o.wp P a w (Goes bm L s w K) Q := by
  obtain ⟨v, bx', n', hgv, hnn, hK⟩ := hp
  have hfv := h.ev f
  rw [hf] at hfv
  unfold VRel at hfv
  obtain ⟨C, hfv, hC⟩ := hfv
  have hargs : LRel bm L w (args.toList.map s.ev ++ caps) ((args.map a.eval).toList ++ C.toList) := by
    refine LRel.append (LRel.of_get (by simp) fun j c v hc hv => ?_) hC
    simp only [List.getElem?_map, Option.map_eq_some_iff] at hc
    obtain ⟨x, hx, rfl⟩ := hc
    have hx' : args[j]? = some x := by simpa using hx
    simp [hx'] at hv
    subst hv
    exact h.ev x
  have hrun : (execOp a.eval o).run P w = .ok (.enter g (args.map a.eval ++ C)) w := by
    have hn : fn.name ≠ "runtime.NumGoroutine" := by simpa using hname
    have hb' : fn.body ≠ none := fun e => by simp [e] at hbody
    simp [execOp, ho, resolve, hfv, Deferred.ofValue, invoke, callFunc, hfn, hn, hb']
  have hcalls := hgv bm L w ((args.map a.eval).toList ++ C.toList) h.nx h.base ⟨h.bml, h.bmn, h.boxes⟩ hargs
  unfold Oper.wp
  rw [hrun, Oper.upon_enter]
  have e1 : ((args.map a.eval).toList ++ C.toList).toArray = args.map a.eval ++ C := by simp
  rw [e1] at hcalls
  refine hcalls.mono fun e w' hpost => ?_
  obtain ⟨bm', L', V, rfl, hV, hn', hb', hbx, hg⟩ := hpost
  have hn0 := h.n0
  have hnb : ∀ b f, L.fam b = some f → b ∉ bm := by
    intro b f hf hb
    obtain ⟨k, hk⟩ := List.mem_iff_getElem?.1 hb
    have hkl := (List.getElem?_eq_some_iff.1 hk).1
    rw [h.bml] at hkl
    have := (h.boxes k b _ hk (List.getElem?_eq_getElem hkl)).1
    rw [hf] at this; cases this
  have hpr : Pres bm L w bm' L' w' [] := by
    refine ⟨hg.hbm, hg.nx, hg.pl, ?_, ?_, ?_, hg.row, fun b I hI => by rw [hg.mp b (h.base.mlt hI)]; exact hI⟩
    · intro b f hf; rw [hg.fam b (h.base.fam b f hf).2]; exact hf
    · intro b f hf; rw [hg.lim b f hf (by rw [← h.nx]; exact (h.base.fam b f hf).1)]; exact Nat.le_refl _
    · intro b f hf hnf off _
      refine cell_of_heap (hg.old b (h.base.fam b f hf).2 (fun f' hf' => ?_) (hnb b f hf) (h.base.nofam hf))
      rw [hf] at hf'; cases hf'
      exact ⟨by rw [← h.nx]; exact (h.base.fam b f hf).1, by simp⟩
  have hS : Sim bm' L' (s.afterB bx' n') a w' := by
    refine ⟨fun t => VRel.pres0 hpr (h.slots t), h.nt, h.defers, hn', hb', hbx.len, hbx.nodup, hbx.all, ?_, ?_, ⟨hn0.1, Nat.le_trans hn0.2 hnn⟩⟩
    · intro x y hx hy hxy
      obtain ⟨k1, _⟩ := h.tips x.1 x.2.1 x.2.2 hx
      obtain ⟨k2, _⟩ := h.tips y.1 y.2.1 y.2.2 hy
      rw [hg.pl _ k1, hg.pl _ k2] at hxy
      exact h.tipsN x y hx hy hxy
    · intro g f T hT
      obtain ⟨k1, k2, b, base, k3, k4, k5, k6⟩ := h.tips g f T hT
      have hnx := hg.nx
      exact ⟨by omega, by omega, b, base, by rw [hg.pl g k1]; exact k3, by rw [hg.fam b (h.base.fam b f k4).2]; exact k4, k5, by rw [hg.lim b f k4 (by rw [← h.nx]; exact k2)]; exact k6⟩
  have hG : Gua bm bm' s.n0 (s.afterB bx' n').D L w L' w' := by
    refine ⟨hg.size, hg.os, hg.tape, hg.output, hg.nx, hg.pl, hg.fam, fun b f hf hlt => hg.lim b f hf (by omega), ?_, hg.row, hg.hbm, hg.nbm, hg.mp⟩
    intro b hlt hfb hnm hq
    refine hg.old b hlt (fun f hf => ?_) hnm hq
    obtain ⟨k1, k2⟩ := hfb f hf
    exact ⟨by omega, by simp⟩
  exact goes_put hS hG rfl (fun f hf => hf) hd hV hK

theorem value_wp (o : Oper) (Q : Exit → Act → World → Prop) {K : Act → World → Prop} {w' : World} {V : Value} (hr : (execOp a.eval o).run P w = .ok (.value V) w') (hk : K (a.put o.dst V) w') : o.wp P a w K Q := by
  unfold Oper.wp; rw [hr]; exact hk
theorem skip_wp (o : Oper) (Q : Exit → Act → World → Prop) {K : Act → World → Prop} {w' : World} (hr : (execOp a.eval o).run P w = .ok .skip w') (hk : K (a.put o.dst undef) w') : o.wp P a w K Q := by
  unfold Oper.wp; rw [hr]; exact hk

theorem undef_rel (bm : List Nat) (L : Lay) (w : World) : VRel bm L w (.tup []) undef := by
  unfold VRel; exact ⟨#[], rfl, by simp [LRel]⟩

theorem light_wp (h : Sim bm L s a w) (o : Oper) (hd : ∀ d, o.dst = some d → d < s.nt) {K : St → Prop} {v : PV} (hl : light P s o = some v) (hk : K (s.put o.dst v)) (Q : Exit → Act → World → Prop) : o.wp P a w (Goes bm L s w K) Q := by
  obtain ⟨V, hV, hr⟩ := light_sound h o hl
  exact value_wp o Q hV (goes_put h (Gua.refl bm s.n0 s.D L w) rfl (fun _ hf => hf) hd hr hk)

theorem pstep_sound (h : Sim bm L s a w) (dr : Bool) (o : Oper) {K : St → Prop} (hp : PStep P dr o K s) (Q : Exit → Act → World → Prop) : o.wp P a w (Goes bm L s w K) Q := by
  obtain ⟨hd, hp⟩ := hp
  cases ho : o.op
  case alloc t =>
    simp only [ho] at hp
    obtain ⟨z, hz, h1, h2, hK⟩ := hp
    obtain ⟨w', V, bm', hr, hS, hG, hV⟩ := alloc_sound h o t ho hz h1 h2
    exact value_wp o Q hr (goes_put hS hG rfl (fun _ hf => hf) hd hV hK)
  case box t x =>
    simp only [ho] at hp
    obtain ⟨h1, h2, hK⟩ := hp
    obtain ⟨w', V, bm', hr, hS, hG, hV⟩ := box_sound h o t x ho h1 h2
    exact value_wp o Q hr (goes_put hS hG rfl (fun _ hf => hf) hd hV hK)
  case store t x y =>
    simp only [ho] at hp
    obtain ⟨h1, h2, h3, hp⟩ := hp
    split at hp
    · rename_i k off hx
      obtain ⟨cs, hk, hle, hK⟩ := hp
      obtain ⟨w', hr, hS, hG⟩ := storeBox_sound h o t x y ho h1 h2 h3 hx hk hle
      exact skip_wp o Q hr (goes_put hS hG rfl (fun _ hf => hf) hd (undef_rel _ _ _) hK)
    · rename_i i z es j c hx
      obtain ⟨k1, k2, k3, k4, k5, hK⟩ := hp
      obtain ⟨w', hr, hS, hG⟩ := storeElt_sound h o t x y ho h1 h2 h3 hx k1 k2 k3 k4 k5
      refine skip_wp o Q hr (goes_put hS hG rfl (fun f hf => ?_) hd (undef_rel _ _ _) hK)
      simp only [St.upd]
      split
      · exact List.mem_insert_of_mem hf
      · exact hf
    · exact hp.elim
  case buildSlice t n parts =>
    simp only [ho] at hp
    obtain ⟨e, m, h1, h2, h3, h4, h5, h6, h7, hK⟩ := hp
    obtain ⟨w', V, L', hr, hS, hG, hV⟩ := buildSlice_sound h o t n parts ho h1 h2 h3 h4 h5 h6 h7
    exact value_wp o Q hr (goes_put hS hG rfl (fun _ hf => hf) hd hV hK)
  case makeSlice t x y =>
    simp only [ho] at hp
    obtain ⟨e, m, by_, z, k, k', len, cap, h1, h2, h3, h4, h5, h6, h7, h8, h9, h10, h11, h12, h13, h14, h15, hK⟩ := hp
    obtain ⟨w', V, L', hr, hS, hG, hV⟩ := makeSlice_sound h o t x y ho h1 h2 h3 h4 h5 h6 h7 h8 h9 h10 h11 h13 h14 h15
    exact value_wp o Q hr (goes_put hS hG rfl (fun _ hf => hf) hd hV hK)
  case makeMap t r =>
    cases r with
    | none =>
      simp only [ho] at hp
      obtain ⟨I, hK⟩ := hp
      obtain ⟨w', V, L', hr, hS, hG, hV⟩ := makeMap_sound h o t ho I
      exact value_wp o Q hr (goes_put hS hG rfl (fun _ hf => hf) hd hV hK)
    | some r =>
      simp only [ho] at hp
      obtain ⟨v, hl, hK⟩ := hp
      exact light_wp h o hd hl hK Q
  case mapUpdate t m k x =>
    simp only [ho] at hp
    obtain ⟨I, p, q, n, h1, h2, h3, h4, h5, hK⟩ := hp
    obtain ⟨w', hr, hS, hG⟩ := mapUpdate_sound h o t m k x ho h1 h2 h3 h4 h5
    exact skip_wp o Q hr (goes_put hS hG rfl (fun _ hf => hf) hd (undef_rel _ _ _) hK)
  case call c =>
    obtain ⟨callee, args, ts⟩ := c
    cases callee
    case value f =>
      simp only [ho] at hp
      split at hp
      · obtain ⟨g, fn, caps, h1, h2, h3, h4, hp⟩ := hp
        exact clo_sound h o f args ts ho h1 h2 h3 h4 hd hp Q
      rcases hp with ⟨g, v, h1, h2, hK⟩ | hp
      · obtain ⟨V, hr, hV⟩ := ext_run h o f args ts ho h1 h2
        exact value_wp o Q hr (goes_put h (Gua.refl bm s.n0 s.D L w) rfl (fun _ hf => hf) hd hV hK)
      obtain ⟨g, fn, h1, h2, h3, h4, h5, hp⟩ := hp
      exact call_sound h o f args ts ho h1 h2 h3 h4 h5 hd (hp.mono fun v n D _ hq => hq.2.2) Q
    case builtin b =>
      cases b
      case append =>
        simp only [ho] at hp
        obtain ⟨x, y, t, h1, h2, hp⟩ := hp
        obtain ⟨w', V, L', s', v, hr, hS, hG, hV, hK, e1, e2, e3⟩ := append_sound h o x y t ts args ho h1 h2 hp
        exact value_wp o Q hr (goes_put hS (by rw [e3]; exact hG) e1 (fun _ hf => by rw [e3]; exact hf) (by rw [e2]; exact hd) hV hK)
      all_goals
        simp only [ho] at hp
        obtain ⟨v, hl, hK⟩ := hp
        exact light_wp h o hd hl hK Q
    case invoke r m =>
      simp only [ho] at hp
      obtain ⟨v, hl, hK⟩ := hp
      exact light_wp h o hd hl hK Q
  all_goals
    simp only [ho] at hp
    obtain ⟨v, hl, hK⟩ := hp
    exact light_wp h o hd hl hK Q
end
end Go.Proofs.YtphndngifjgeoaaGreatDoor

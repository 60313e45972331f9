/- The by-value logic, part M: the code's rules, loops, and a function's contract out of its body; for every program. -/
import Derived.Test.YtphndngifjgeoaaGreatDoorBvL
set_option linter.unusedVariables false
set_option linter.unusedSimpArgs false
namespace Go.Proofs.YtphndngifjgeoaaGreatDoor

inductive PExit where
  | normal
  | exit (id : Nat)
  | ret
def PExit.real : PExit → Exit
  | .normal => .normal
  | .exit id => .exit id
  | .ret => .ret

def PExit.then (next : St → Prop) (Q : PExit → St → Prop) : PExit → St → Prop
  | .normal, s => next s
  | e, s => Q e s
def PExit.inBlock (id : Nat) (Q : PExit → St → Prop) : PExit → St → Prop
  | .exit k, s => if k = id then Q .normal s else Q (.exit k) s
  | e, s => Q e s

def PIter (B : (PExit → St → Prop) → St → Prop) (Q : PExit → St → Prop) : Nat → St → Prop
  | 0, _ => False
  | n + 1, s => B (PExit.then (PIter B Q n) Q) s

def PLoop (B : (PExit → St → Prop) → St → Prop) (Q : PExit → St → Prop) (s : St) : Prop := ∃ n, PIter B Q n s

/-- What the code comes to, from a pure state on. -/
def PW (P : Program) : Code → (PExit → St → Prop) → St → Prop
  | .skip, Q, s => Q .normal s
  | .label _, Q, s => Q .normal s
  | .region _ ops dr, Q, s => PSeqD P dr ops (List.range ops.size) (Q .normal) s
  | .seq x y, Q, s => PW P x (PExit.then (PW P y Q) Q) s
  | .cond c x y, Q, s => ∃ t, s.ev c = .bool t ∧ (t = true → PW P x Q s) ∧ (t = false → PW P y Q s)
  | .block id c, Q, s => PW P c (PExit.inBlock id Q) s
  | .loop c, Q, s => PLoop (PW P c) Q s
  | .exit id, Q, s => Q (.exit id) s
  | .ret, Q, s => Q .ret s
  | _, _, _ => False

/-- Statements of open order have edges enough. -/
def codeOk : Code → Bool
  | .region _ ops dr => !dr || drawOk ops
  | .seq x y => codeOk x && codeOk y
  | .cond _ x y => codeOk x && codeOk y
  | .block _ c => codeOk c
  | .loop c => codeOk c
  | _ => true

section
variable {P : Program}

/-- The code comes from s to s' and the exit e. -/
def X (P : Program) (c : Code) (s : St) (e : PExit) (s' : St) : Prop :=
  ∀ (bm : List Nat) (L : Lay) (a : Act) (w : World), Sim bm L s a w → c.wp P (fun E a' w' => E = e.real ∧ Goes bm L s w (fun x => x = s') a' w') a w

theorem Sim.heap {bm : List Nat} {L : Lay} {s : St} {a : Act} {w w1 : World} (h : Sim bm L s a w) (hw : w1.heap = w.heap) (ho : w1.os = w.os) (ht : w1.tape = w.tape) (hout : w1.output = w.output) :
    Sim bm L s a w1 ∧ Gua bm bm s.n0 s.D L w L w1 := by
  have hb : ∀ b : Nat, w1.heap[b]? = w.heap[b]? := fun b => by rw [hw]
  have hp : Pres bm L w bm L w1 [] := ⟨fun _ _ h => h, Nat.le_refl _, fun _ _ => rfl, fun _ _ h => h, fun _ _ _ => Nat.le_refl _, fun b _ _ _ off _ => cell_of_heap (hb b), fun b f _ C el fz hC => ⟨C, by rw [hb]; exact hC, rfl⟩, fun _ _ h => h⟩
  constructor
  · refine ⟨fun t => VRel.pres0 hp (h.slots t), h.nt, h.defers, h.nx, ⟨h.base.pos, fun b f hf => by rw [hw]; exact h.base.fam b f hf, fun b f hf h0 => by rw [hb]; exact h.base.own b f hf h0, fun b C hC => by rw [hb]; exact h.base.tab b C hC, fun b I hI => by rw [hb]; exact h.base.mp b I hI⟩, h.bml, h.bmn, ?_, h.tipsN, h.tips, h.n0⟩
    intro k b cs hk hcs
    obtain ⟨h1, C, el, h2, h3, h4⟩ := h.boxes k b cs hk hcs
    exact ⟨h1, C, el, by rw [hb]; exact h2, LRel.pres0 hp h3, h4⟩
  · exact ⟨by rw [hw]; exact Nat.le_refl _, ho, ht, hout, Nat.le_refl _, fun _ _ => rfl, fun _ _ => rfl, fun _ _ _ _ => rfl, fun b _ _ _ _ => hb b, hp.row, fun _ _ h => h, fun _ h => .inl h, fun _ _ => rfl⟩

theorem x_region (hm : P.follows .mixedOrders = true) {id : Nat} {ops : Array Oper} {dr : Bool} (hok : (!dr || drawOk ops) = true) {s s' : St} (h : PSeqD P dr ops (List.range ops.size) (fun x => x = s') s) : X P (.region id ops dr) s .normal s' := by
  intro bm L a w hs
  cases dr with
  | false =>
    simp only [PSeqD, Bool.false_eq_true, if_false] at h
    refine wp_region ?_
    exact pseq_sound _ hs h fun a' w' hg => ⟨rfl, hg⟩
  | true =>
    simp only [PSeqD, if_true] at h
    refine wp_region_any hm ?_
    have hok' : drawOk ops = true := by simpa using hok
    obtain ⟨hs', hg'⟩ := hs.heap (w1 := { w with drawn := w.drawn + 1 }) rfl rfl rfl rfl
    have hrest : rest ops.size (Array.replicate ops.size false) = List.range ops.size := by
      simp only [rest]
      refine List.filter_eq_self.2 fun i hi => ?_
      have : i < ops.size := by simpa using hi
      simp [this]
    refine pany_sound hok' ops.size _ (by simp) ?_ (by rw [hrest]; simp) hs' (by rw [hrest]; exact h) fun a' w' hg => ⟨rfl, Goes.trans hs.base hg' rfl (fun _ hf => hf) hg⟩
    intro i o ho hl
    have : i < ops.size := (Array.getElem?_eq_some_iff.1 ho).1
    simp [this] at hl

theorem x_seq {x y : Code} {s s1 s2 : St} {e : PExit} (h1 : X P x s .normal s1) (h2 : X P y s1 e s2) : X P (.seq x y) s e s2 := by
  intro bm L a w hs
  refine wp_seq (wp_mono (h1 bm L a w hs) ?_)
  rintro E a' w' ⟨rfl, hg⟩
  obtain ⟨bm', L', s', k1, k2, k3, k4, rfl⟩ := hg
  refine wp_mono (h2 bm' L' a' w' k1) ?_
  rintro E a'' w'' ⟨rfl, hg'⟩
  exact ⟨rfl, Goes.trans hs.base k2 k3 k4 hg'⟩

theorem x_seq_out {x y : Code} {s s1 : St} {e : PExit} (he : e ≠ .normal) (h1 : X P x s e s1) : X P (.seq x y) s e s1 := by
  intro bm L a w hs
  refine wp_seq (wp_mono (h1 bm L a w hs) ?_)
  rintro E a' w' ⟨rfl, hg⟩
  cases e with
  | normal => exact absurd rfl he
  | exit id => exact ⟨rfl, hg⟩
  | ret => exact ⟨rfl, hg⟩

theorem iter_det {c : Code} (ih : ∀ (Q : PExit → St → Prop) (s : St), PW P c Q s → ∃ e s', X P c s e s' ∧ Q e s') {Q : PExit → St → Prop} : ∀ (n : Nat) (s : St), PIter (PW P c) Q n s → ∃ e s', X P (.loop c) s e s' ∧ e ≠ .normal ∧ Q e s' := by
  intro n
  have key : ∀ (n : Nat) (s : St), PIter (PW P c) Q n s → ∃ e s', e ≠ .normal ∧ Q e s' ∧ ∀ (bm : List Nat) (L : Lay) (a : Act) (w : World), Sim bm L s a w → Code.rounds P c (fun E a' w' => E = e.real ∧ Goes bm L s w (fun x => x = s') a' w') n a w := by
    intro n
    induction n with
    | zero => intro s h; exact h.elim
    | succ n ihn =>
      intro s h
      obtain ⟨e1, s1, hx, hq⟩ := ih _ s h
      cases e1 with
      | normal =>
        obtain ⟨e, s', he, hq', hr⟩ := ihn s1 hq
        refine ⟨e, s', he, hq', fun bm L a w hs => ?_⟩
        rw [rounds_succ]
        refine wp_mono (hx bm L a w hs) ?_
        rintro E a' w' ⟨rfl, hg⟩
        obtain ⟨bm', L', s2, k1, k2, k3, k4, rfl⟩ := hg
        have hm : ∀ (n : Nat) (a : Act) (w : World) (Q Q' : Exit → Act → World → Prop), (∀ E a w, Q E a w → Q' E a w) → Code.rounds P c Q n a w → Code.rounds P c Q' n a w := by
          intro n
          induction n with
          | zero => intro a w Q Q' _ h; exact h
          | succ n ihm =>
            intro a w Q Q' hqq h
            rw [rounds_succ] at h ⊢
            refine wp_mono h fun E a w hE => ?_
            cases E <;> first | exact ihm _ _ Q Q' hqq hE | exact hqq _ _ _ hE
        exact hm n a' w' _ _ (fun E a'' w'' hE => ⟨hE.1, Goes.trans hs.base k2 k3 k4 hE.2⟩) (hr bm' L' a' w' k1)
      | exit id =>
        refine ⟨.exit id, s1, by simp, hq, fun bm L a w hs => ?_⟩
        rw [rounds_succ]
        refine wp_mono (hx bm L a w hs) ?_
        rintro E a' w' ⟨rfl, hg⟩
        exact ⟨rfl, hg⟩
      | ret =>
        refine ⟨.ret, s1, by simp, hq, fun bm L a w hs => ?_⟩
        rw [rounds_succ]
        refine wp_mono (hx bm L a w hs) ?_
        rintro E a' w' ⟨rfl, hg⟩
        exact ⟨rfl, hg⟩
  intro s h
  obtain ⟨e, s', he, hq, hr⟩ := key n s h
  exact ⟨e, s', fun bm L a w hs => wp_loop_rounds n (hr bm L a w hs), he, hq⟩

/-- What the pure code comes to, the model's comes to. -/
theorem pw_sound (hm : P.follows .mixedOrders = true) : ∀ (c : Code), codeOk c = true → ∀ (Q : PExit → St → Prop) (s : St), PW P c Q s → ∃ e s', X P c s e s' ∧ Q e s' := by
  intro c
  induction c with
  | skip => intro _ Q s h; exact ⟨.normal, s, fun bm L a w hs => wp_skip ⟨rfl, bm, L, s, hs, Gua.refl bm s.n0 s.D L w, rfl, fun _ hf => hf, rfl⟩, h⟩
  | label l => intro _ Q s h; exact ⟨.normal, s, fun bm L a w hs => wp_label ⟨rfl, bm, L, s, hs, Gua.refl bm s.n0 s.D L w, rfl, fun _ hf => hf, rfl⟩, h⟩
  | region id ops dr =>
    intro hok Q s h
    obtain ⟨s', h1, h2⟩ := pseqD_det _ h
    exact ⟨.normal, s', x_region hm hok h1, h2⟩
  | seq x y ihx ihy =>
    intro hok Q s h
    simp only [codeOk, Bool.and_eq_true] at hok
    obtain ⟨e, s1, h1, h2⟩ := ihx hok.1 _ s h
    cases e with
    | normal =>
      obtain ⟨e, s2, h3, h4⟩ := ihy hok.2 _ s1 h2
      exact ⟨e, s2, x_seq h1 h3, h4⟩
    | exit id => exact ⟨.exit id, s1, x_seq_out (by simp) h1, h2⟩
    | ret => exact ⟨.ret, s1, x_seq_out (by simp) h1, h2⟩
  | cond c x y ihx ihy =>
    intro hok Q s h
    simp only [codeOk, Bool.and_eq_true] at hok
    obtain ⟨t, ht, h1, h2⟩ := h
    have hc : ∀ (bm : List Nat) (L : Lay) (a : Act) (w : World), Sim bm L s a w → a.eval c = .bool t := fun bm L a w hs => by
      have := hs.ev c; rw [ht] at this; exact this.bool
    cases t with
    | true =>
      obtain ⟨e, s', h3, h4⟩ := ihx hok.1 _ s (h1 rfl)
      exact ⟨e, s', fun bm L a w hs => wp_cond_true (hc bm L a w hs) (h3 bm L a w hs), h4⟩
    | false =>
      obtain ⟨e, s', h3, h4⟩ := ihy hok.2 _ s (h2 rfl)
      exact ⟨e, s', fun bm L a w hs => wp_cond_false (hc bm L a w hs) (h3 bm L a w hs), h4⟩
  | block id c ih =>
    intro hok Q s h
    obtain ⟨e, s', h1, h2⟩ := ih hok _ s h
    cases e with
    | normal => exact ⟨.normal, s', fun bm L a w hs => wp_block (wp_mono (h1 bm L a w hs) (by rintro E a' w' ⟨rfl, hg⟩; exact ⟨rfl, hg⟩)), h2⟩
    | ret => exact ⟨.ret, s', fun bm L a w hs => wp_block (wp_mono (h1 bm L a w hs) (by rintro E a' w' ⟨rfl, hg⟩; exact ⟨rfl, hg⟩)), h2⟩
    | exit k =>
      simp only [PExit.inBlock] at h2
      split at h2
      · rename_i hk
        subst hk
        exact ⟨.normal, s', fun bm L a w hs => wp_block (wp_mono (h1 bm L a w hs) (by rintro E a' w' ⟨rfl, hg⟩; simp only [PExit.real, Exit.inBlock, if_true]; exact ⟨by first | rfl | trivial, hg⟩)), h2⟩
      · rename_i hk
        exact ⟨.exit k, s', fun bm L a w hs => wp_block (wp_mono (h1 bm L a w hs) (by rintro E a' w' ⟨rfl, hg⟩; simp only [PExit.real, Exit.inBlock, if_neg hk]; exact ⟨trivial, hg⟩)), h2⟩
  | loop c ih =>
    intro hok Q s h
    obtain ⟨n, hn⟩ := h
    obtain ⟨e, s', h1, _, h2⟩ := iter_det (ih hok) n s hn
    exact ⟨e, s', h1, h2⟩
  | exit id => intro _ Q s h; exact ⟨.exit id, s, fun bm L a w hs => wp_exit ⟨rfl, bm, L, s, hs, Gua.refl bm s.n0 s.D L w, rfl, fun _ hf => hf, rfl⟩, h⟩
  | ret => intro _ Q s h; exact ⟨.ret, s, fun bm L a w hs => wp_ret ⟨rfl, bm, L, s, hs, Gua.refl bm s.n0 s.D L w, rfl, fun _ hf => hf, rfl⟩, h⟩
  | rangeFunc f ps x y => intro _ Q s h; exact h.elim
  | scope b => intro _ Q s h; exact h.elim
  | goto l => intro _ Q s h; exact h.elim
  | refuse why => intro _ Q s h; exact h.elim

/-- A loop: what holds at each round's head, and what each round lowers. -/
theorem PLoop.rule {B : (PExit → St → Prop) → St → Prop} {Q : PExit → St → Prop} (hmono : ∀ {Q Q' : PExit → St → Prop} {s : St}, (∀ e s', Q e s' → Q' e s') → B Q s → B Q' s) (I : St → Prop) (m : St → Nat) {s : St} (h0 : I s)
    (hround : ∀ s, I s → B (PExit.then (fun s' => I s' ∧ m s' < m s) Q) s) : PLoop B Q s := by
  have key : ∀ (n : Nat) (s : St), m s < n → I s → PIter B Q n s := by
    intro n
    induction n with
    | zero => intro s hs; omega
    | succ n ih =>
      intro s hs hI
      refine hmono ?_ (hround s hI)
      intro e s' he
      cases e with
      | normal => exact ih s' (by have := he.2; omega) he.1
      | exit id => exact he
      | ret => exact he
  exact ⟨m s + 1, key _ s (by omega) h0⟩

theorem PW.mono : ∀ (c : Code) {Q Q' : PExit → St → Prop} {s : St}, (∀ e s', Q e s' → Q' e s') → PW P c Q s → PW P c Q' s := by
  intro c
  induction c with
  | skip => intro Q Q' s hq h; exact hq _ _ h
  | label l => intro Q Q' s hq h; exact hq _ _ h
  | region id ops dr => intro Q Q' s hq h; exact pseqD_mono _ (fun s' hs => hq _ _ hs) h
  | seq x y ihx ihy =>
    intro Q Q' s hq h
    refine ihx (fun e s' he => ?_) h
    cases e with
    | normal => exact ihy hq he
    | exit id => exact hq _ _ he
    | ret => exact hq _ _ he
  | cond c x y ihx ihy =>
    intro Q Q' s hq h
    obtain ⟨t, h1, h2, h3⟩ := h
    exact ⟨t, h1, fun ht => ihx hq (h2 ht), fun ht => ihy hq (h3 ht)⟩
  | block id c ih =>
    intro Q Q' s hq h
    refine ih (fun e s' he => ?_) h
    cases e with
    | exit k => simp only [PExit.inBlock] at he ⊢; split at he <;> rename_i hk <;> simp only [hk, if_true, if_false] <;> exact hq _ _ he
    | _ => exact hq _ _ he
  | loop c ih =>
    intro Q Q' s hq h
    obtain ⟨n, hn⟩ := h
    refine ⟨n, ?_⟩
    have key : ∀ (n : Nat) (s : St), PIter (PW P c) Q n s → PIter (PW P c) Q' n s := by
      intro n
      induction n with
      | zero => intro s h; exact h
      | succ n ihn =>
        intro s h
        refine ih (fun e s' he => ?_) h
        cases e with
        | normal => exact ihn _ he
        | exit id => exact hq _ _ he
        | ret => exact hq _ _ he
    exact key n s hn
  | exit id => intro Q Q' s hq h; exact hq _ _ h
  | ret => intro Q Q' s hq h; exact hq _ _ h
  | _ => intro Q Q' s hq h; exact h.elim

theorem PW.loop {c : Code} {Q : PExit → St → Prop} (I : St → Prop) (m : St → Nat) {s : St} (h0 : I s) (hround : ∀ s, I s → PW P c (PExit.then (fun s' => I s' ∧ m s' < m s) Q) s) : PW P (.loop c) Q s :=
  PLoop.rule (B := PW P c) (fun {Q Q' s} hq h => PW.mono c hq h) I m h0 hround

/-! ### a function -/
def resP (P : Program) (s : St) : List ResultVar → Option (List PV)
  | [] => some []
  | .tmp t :: rs => (resP P s rs).map fun vs => s.slots t :: vs
  | .cell a t :: rs => match s.slots a with
    | .box k off => match s.boxes[k]? with
      | some cs => match loadP P t cs off with
        | some v => (resP P s rs).map fun vs => v :: vs
        | none => none
      | none => none
    | _ => none

def resV : List PV → PV
  | [v] => v
  | vs => .tup vs

def St.enter (nt : Nat) (args : List PV) (n : Nat) : St :=
  { slots := fun t => args.getD t (.tup []), nt := args.length + (nt - args.length), boxes := [], next := n, tips := [], D := [], n0 := n }

/-- What is handed back bears no pointer to the frame. -/
def PV.closedR : PV → Bool
  | .tup vs => vs.all PV.closed
  | v => v.closed

theorem VRel.openR {bm : List Nat} {L : Lay} {w : World} {p : PV} (hp : p.closedR = true) {v : Value} (h : VRel bm L w p v) : VRel [] L w p v := by
  cases p with
  | tup vs =>
    unfold VRel at h ⊢
    obtain ⟨C, e, h⟩ := h
    refine ⟨C, e, LRel.of_get h.length fun j c v hc hv => ?_⟩
    obtain ⟨u, hu, hr⟩ := h.get j c hc
    rw [hv] at hu; cases hu
    exact hr.open (List.all_eq_true.1 hp c (List.mem_of_getElem? hc))
  | undef => exact VRel.open (p := .undef) hp h
  | bool b => exact VRel.open (p := .bool b) hp h
  | int k m => exact VRel.open (p := .int k m) hp h
  | float k m => exact VRel.open (p := .float k m) hp h
  | sl i z es => exact VRel.open (p := .sl i z es) hp h
  | agg cs => exact VRel.open (p := .agg cs) hp h
  | box k o => exact VRel.open (p := .box k o) hp h
  | gp b o => exact VRel.open (p := .gp b o) hp h
  | map I => exact VRel.open (p := .map I) hp h
  | elt i z es j c => exact VRel.open (p := .elt i z es j c) hp h
  | fn f cs => exact VRel.open (p := .fn f cs) hp h

theorem resP_run {bm : List Nat} {L : Lay} {s : St} {a : Act} {w : World} (h : Sim bm L s a w) : ∀ (rs : List ResultVar) (vs : List PV), resP P s rs = some vs →
    ∃ us : List Value, (rs.mapM fun
      | .tmp t => pure (a.tmps.getD t undef)
      | .cell x t => do loadVar t (← asAddr (a.tmps.getD x undef)) : Sem (List Value)).run P w = .ok us w ∧ LRel bm L w vs us
  | [], vs, hr => by simp [resP] at hr; subst hr; exact ⟨[], rfl, by simp [LRel]⟩
  | .tmp t :: rs, vs, hr => by
    simp only [resP, Option.map_eq_some_iff] at hr
    obtain ⟨vs', hr', rfl⟩ := hr
    obtain ⟨us, hus, hl⟩ := resP_run h rs vs' hr'
    refine ⟨a.tmps.getD t undef :: us, ?_, by unfold LRel; exact ⟨_, _, rfl, h.slots t, hl⟩⟩
    rw [List.mapM_cons]
    simp only [Sem.run_bind, Sem.run_pure, Result.andThen_ok, hus]
  | .cell x t :: rs, vs, hr => by
    simp only [resP] at hr
    split at hr
    · rename_i k off hx
      split at hr
      · rename_i cs hcs
        split at hr
        · rename_i v hv
          simp only [Option.map_eq_some_iff] at hr
          obtain ⟨vs', hr', rfl⟩ := hr
          obtain ⟨us, hus, hl⟩ := resP_run h rs vs' hr'
          have hsx := h.slots x
          rw [hx] at hsx
          unfold VRel at hsx
          obtain ⟨b, hb, hax⟩ := hsx
          obtain ⟨V, hV, hrel⟩ := loadP_run (o := 0) hv (h.box_get hb hcs)
          simp only [Nat.zero_add] at hV
          refine ⟨V :: us, ?_, by unfold LRel; exact ⟨_, _, rfl, hrel, hl⟩⟩
          have hasA : (asAddr (a.tmps.getD x undef)).run P w = .ok ⟨b, off, none⟩ w := by rw [hax]; rfl
          rw [List.mapM_cons]
          simp only [Sem.run_bind, Sem.run_pure, Result.andThen_ok, hasA, hV, hus]
        · cases hr
      · cases hr
    · cases hr

theorem VRel.closedR_shut {bm : List Nat} {L : Lay} {w : World} {p : PV} {v : Value} (h : VRel [] L w p v) : VRel bm L w p v := VRel.shut L w bm p v h

/-- A function's contract out of its body. -/
theorem PCall.of_body (hm : P.follows .mixedOrders = true) {f : FuncId} {fn : Func} {c : Code} (hf : P.funcs[f]? = some fn) (hb : fn.body = some c) (hok : codeOk c = true) {args : List PV} {n : Nat} (hn : 0 < n) {Q : PV → Nat → List Nat → Prop}
    (h : PW P c (fun e s => (match e with | .exit _ => False | _ => True) ∧ ∃ vs, resP P s fn.results.toList = some vs ∧ (resV vs).closedR = true ∧ n ≤ s.next ∧ Q (resV vs) s.next s.D) (St.enter fn.ntmps args n)) : PCall P f args n Q := by
  obtain ⟨e, s', hx, he, vs, hvs, hcl, hnn, hq⟩ := pw_sound hm c hok _ _ h
  refine ⟨resV vs, s'.next, s'.D, fun L w A hL hbase hargs => ?_, hnn, hq⟩
  have hlen := hargs.length
  have hsim : Sim [] L (St.enter fn.ntmps args n) { tmps := A.toArray ++ Array.replicate (fn.ntmps - A.toArray.size) undef, defers := [] } w := by
    refine ⟨fun t => ?_, by simp [St.enter, hlen], rfl, hL, hbase, rfl, by simp, fun k b cs hk => by simp at hk, fun x y hx => by simp [St.enter] at hx, fun g f T hT => by simp [St.enter] at hT, ⟨hn, Nat.le_refl _⟩⟩
    simp only [St.enter]
    by_cases ht : t < args.length
    · obtain ⟨u, hu, hr⟩ := hargs.get t _ (List.getElem?_eq_getElem ht)
      have h1 : args.getD t (.tup []) = args[t] := by simp [List.getD, ht]
      have hlt : t < A.length := by omega
      have h2 : (A.toArray ++ Array.replicate (fn.ntmps - A.toArray.size) undef).getD t undef = u := by
        rw [Array.getD_eq_getD_getElem?, Array.getElem?_append_left (by simpa using hlt)]
        simp [hu]
      rw [h1, h2]; exact hr
    · have h1 : args.getD t (.tup []) = .tup [] := by simp [List.getD, List.getElem?_eq_none (Nat.le_of_not_lt ht)]
      have h2 : (A.toArray ++ Array.replicate (fn.ntmps - A.toArray.size) undef).getD t undef = undef := by
        rw [Array.getD_eq_getD_getElem?, Array.getElem?_append_right (by simp; omega)]
        by_cases h3 : t - A.length < fn.ntmps - A.length <;> simp [h3]
      rw [h1, h2]; exact undef_rel [] L w
  refine calls_of_wp hf hb (wp_mono (hx [] L _ w hsim) ?_)
  rintro E a' w' ⟨rfl, bm', L', s2, k1, k2, k3, k4, rfl⟩
  have key : a'.defers = [] ∧ ∃ v, (results fn a'.tmps).run P w' = .ok v w' ∧ ∃ (L' : Lay) (V : Value), Ending.returned v = .returned V ∧ VRel [] L' w' (resV vs) V ∧ L'.nx = s2.next ∧ Base L' w' ∧ Gua [] [] n s2.D L w L' w' := by
    refine ⟨k1.defers, ?_⟩
    obtain ⟨us, hus, hl⟩ := resP_run k1 fn.results.toList vs hvs
    have hll := hl.length
    have hrun : (results fn a'.tmps).run P w' = .ok (if h : us.toArray.size = 1 then us.toArray[0] else .tuple us.toArray) w' := by
      unfold results
      rw [Array.mapM_eq_mapM_toList, Sem.run_bind, Sem.run_map]
      erw [hus]
      rfl
    refine ⟨_, hrun, L', _, rfl, ?_, k1.nx, k1.base, ⟨k2.size, k2.os, k2.tape, k2.output, k2.nx, k2.pl, k2.fam, k2.lim, fun b hb hf hm hq => k2.old b hb hf (by simp) hq, k2.row, fun _ _ h => by simp at h, fun _ h => by simp at h, k2.mp⟩⟩
    refine VRel.openR hcl (bm := bm') ?_
    match vs, us, hl, hll with
    | [], [], hl, _ => simp [resV]; exact undef_rel bm' L' w'
    | [v], [u], hl, _ =>
      unfold LRel at hl
      obtain ⟨_, _, e, hr, _⟩ := hl
      cases e
      simpa [resV] using hr
    | v :: v2 :: vs, u :: u2 :: us, hl, _ =>
      simp only [resV, List.size_toArray, List.length_cons]
      rw [dif_neg (by omega)]
      unfold VRel
      exact ⟨_, rfl, hl⟩
  cases e with
  | normal => exact key
  | ret => exact key
  | exit id => exact he.elim
/-- A closure's frame. -/
def St.enterB (nt : Nat) (args : List PV) (bx : List (List PV)) (n : Nat) : St :=
  { slots := fun t => args.getD t (.tup []), nt := args.length + (nt - args.length), boxes := bx, next := n, tips := [], D := [], n0 := n }
/-- A closure's contract out of its body: it writes no family that was there. -/
theorem PCallB.of_body (hm : P.follows .mixedOrders = true) {f : FuncId} {fn : Func} {c : Code} (hf : P.funcs[f]? = some fn) (hb : fn.body = some c) (hok : codeOk c = true) {args : List PV} {bx : List (List PV)} {n : Nat} (hn : 0 < n) {Q : PV → List (List PV) → Nat → Prop}
    (h : PW P c (fun e s => (match e with | .exit _ => False | _ => True) ∧ ∃ vs, resP P s fn.results.toList = some vs ∧ n ≤ s.next ∧ s.D = [] ∧ Q (resV vs) s.boxes s.next) (St.enterB fn.ntmps args bx n)) : PCallB P f args bx n Q := by
  obtain ⟨e, s', hx, he, vs, hvs, hnn, hD, hq⟩ := pw_sound hm c hok _ _ h
  refine ⟨resV vs, s'.boxes, s'.next, fun bm L w A hL hbase hbox hargs => ?_, hnn, hq⟩
  have hlen := hargs.length
  have hsim : Sim bm L (St.enterB fn.ntmps args bx n) { tmps := A.toArray ++ Array.replicate (fn.ntmps - A.toArray.size) undef, defers := [] } w := by
    refine ⟨fun t => ?_, by simp [St.enterB, hlen], rfl, hL, hbase, hbox.len, hbox.nodup, hbox.all, fun x y hx => by simp [St.enterB] at hx, fun g f T hT => by simp [St.enterB] at hT, ⟨hn, Nat.le_refl _⟩⟩
    simp only [St.enterB]
    by_cases ht : t < args.length
    · obtain ⟨u, hu, hr⟩ := hargs.get t _ (List.getElem?_eq_getElem ht)
      have h1 : args.getD t (.tup []) = args[t] := by simp [List.getD, ht]
      have hlt : t < A.length := by omega
      have h2 : (A.toArray ++ Array.replicate (fn.ntmps - A.toArray.size) undef).getD t undef = u := by
        rw [Array.getD_eq_getD_getElem?, Array.getElem?_append_left (by simpa using hlt)]
        simp [hu]
      rw [h1, h2]; exact hr
    · have h1 : args.getD t (.tup []) = .tup [] := by simp [List.getD, List.getElem?_eq_none (Nat.le_of_not_lt ht)]
      have h2 : (A.toArray ++ Array.replicate (fn.ntmps - A.toArray.size) undef).getD t undef = undef := by
        rw [Array.getD_eq_getD_getElem?, Array.getElem?_append_right (by simp; omega)]
        by_cases h3 : t - A.length < fn.ntmps - A.length <;> simp [h3]
      rw [h1, h2]; exact undef_rel bm L w
  refine calls_of_wp hf hb (wp_mono (hx bm L _ w hsim) ?_)
  rintro E a' w' ⟨rfl, bm', L', s2, k1, k2, k3, k4, rfl⟩
  have key : a'.defers = [] ∧ ∃ v, (results fn a'.tmps).run P w' = .ok v w' ∧ ∃ (bm' : List Nat) (L' : Lay) (V : Value), Ending.returned v = .returned V ∧ VRel bm' L' w' (resV vs) V ∧ L'.nx = s2.next ∧ Base L' w' ∧ BoxR bm' L' w' s2.boxes ∧ Gua bm bm' n [] L w L' w' := by
    refine ⟨k1.defers, ?_⟩
    obtain ⟨us, hus, hl⟩ := resP_run k1 fn.results.toList vs hvs
    have hll := hl.length
    have hrun : (results fn a'.tmps).run P w' = .ok (if h : us.toArray.size = 1 then us.toArray[0] else .tuple us.toArray) w' := by
      unfold results
      rw [Array.mapM_eq_mapM_toList, Sem.run_bind, Sem.run_map]
      erw [hus]
      rfl
    rw [hD] at k2
    refine ⟨_, hrun, bm', L', _, rfl, ?_, k1.nx, k1.base, ⟨k1.bml, k1.bmn, k1.boxes⟩, k2⟩
    match vs, us, hl, hll with
    | [], [], hl, _ => simp [resV]; exact undef_rel bm' L' w'
    | [v], [u], hl, _ =>
      unfold LRel at hl
      obtain ⟨_, _, e, hr, _⟩ := hl
      cases e
      simpa [resV] using hr
    | v :: v2 :: vs, u :: u2 :: us, hl, _ =>
      simp only [resV, List.size_toArray, List.length_cons]
      rw [dif_neg (by omega)]
      unfold VRel
      exact ⟨_, rfl, hl⟩
  cases e with
  | normal => exact key
  | ret => exact key
  | exit id => exact he.elim
end
end Go.Proofs.YtphndngifjgeoaaGreatDoor

/- The by-value logic, part J: a statement's operations in the text's order, and that every order which their edges allow comes to the same; for every program. -/
import Derived.Test.YtphndngifjgeoaaGreatDoorBvI
import Derived.LoopN
set_option linter.unusedVariables false
set_option linter.unusedSimpArgs false
namespace Go.Proofs.YtphndngifjgeoaaGreatDoor

def guardP (s : St) (ops : Array Oper) (o : Oper) : Option Bool :=
  match o.guard with
  | none => some true
  | some (j, want) => match (ops[j]?).bind (·.dst) with
    | some d => if d < s.nt then (match s.slots d with | .bool b => some (b == want) | .tup [] => some false | _ => none) else none
    | none => some false

/-- Operation i of a statement: done, or passed over. -/
def PI (P : Program) (dr : Bool) (ops : Array Oper) (i : Nat) (K : St → Prop) (s : St) : Prop :=
  match ops[i]? with
  | none => K s
  | some o => match guardP s ops o with
    | some true => PStep P dr o K s
    | some false => (∀ d, o.dst = some d → d < s.nt) ∧ K (s.put o.dst (.tup []))
    | none => False

def PSeq (P : Program) (dr : Bool) (ops : Array Oper) : List Nat → (St → Prop) → St → Prop
  | [], K => K
  | i :: is, K => PI P dr ops i (PSeq P dr ops is K)

section
variable {P : Program} {bm : List Nat} {L : Lay} {s : St} {a : Act} {w : World}

theorem guard_wanted (h : Sim bm L s a w) {ops : Array Oper} {o : Oper} {t : Bool} (hg : guardP s ops o = some t) : Region.wanted o (yielded ops a.tmps) = t := by
  unfold guardP at hg
  unfold Region.wanted
  cases hgd : o.guard with
  | none => simp [hgd] at hg; simp [hg]
  | some x =>
    obtain ⟨j, want⟩ := x
    simp only [hgd] at hg ⊢
    unfold yielded
    cases hd : (ops[j]?).bind (·.dst) with
    | none => simp [hd] at hg; simp [hg]
    | some d =>
      simp only [hd] at hg
      split at hg
      · rename_i hlt
        rw [← h.nt] at hlt
        have hs := h.slots d
        simp only [Option.bind_some]
        have hget : a.tmps[d]? = some (a.tmps.getD d undef) := by simp [hlt]
        split at hg
        · rename_i b he
          rw [he] at hs
          rw [hget, hs.bool]
          simp at hg ⊢
          rw [← hg]
          try (cases b <;> cases want <;> rfl)
        · rename_i he
          rw [he] at hs
          unfold VRel at hs
          obtain ⟨C, hv, hC⟩ := hs
          rw [hget, hv]
          simp at hg ⊢
          try exact hg
        · cases hg
      · cases hg

theorem pi_sound (h : Sim bm L s a w) {dr : Bool} {ops : Array Oper} {i : Nat} {K : St → Prop} (hp : PI P dr ops i K s) (Q : Exit → Act → World → Prop) : wpOp P ops Q i (Goes bm L s w K) a w := by
  unfold PI at hp
  unfold wpOp
  cases ho : ops[i]? with
  | none => simp only [ho] at hp ⊢; exact ⟨bm, L, s, h, Gua.refl bm s.n0 s.D L w, rfl, fun _ hf => hf, hp⟩
  | some o =>
    simp only [ho] at hp ⊢
    split at hp
    · rename_i hg
      rw [guard_wanted h hg]
      exact .inl (pstep_sound h dr o hp Q)
    · rename_i hg
      rw [guard_wanted h hg]
      exact goes_put h (Gua.refl bm s.n0 s.D L w) rfl (fun _ hf => hf) hp.1 (undef_rel bm L w) hp.2
    · exact hp.elim

theorem pseq_sound {dr : Bool} {ops : Array Oper} {K : St → Prop} {Q : Exit → Act → World → Prop} : ∀ (l : List Nat) {bm : List Nat} {L : Lay} {s : St} {a : Act} {w : World}, Sim bm L s a w → PSeq P dr ops l K s →
    (∀ a' w', Goes bm L s w K a' w' → Q .normal a' w') → wpOps P ops Q l a w
  | [], bm, L, s, a, w, h, hp, hq => by
    simp only [wpOps]
    exact hq a w ⟨bm, L, s, h, Gua.refl bm s.n0 s.D L w, rfl, fun _ hf => hf, hp⟩
  | i :: l, bm, L, s, a, w, h, hp, hq => by
    rw [wpOps_cons]
    refine wpOp_mono (fun a' w' hg => ?_) (pi_sound h hp Q)
    obtain ⟨bm', L', s', h1, h2, h3, h4, h5⟩ := hg
    exact pseq_sound l h1 h5 fun a'' w'' hg' => hq a'' w'' (Goes.trans h.base h2 h3 h4 hg')

/-! ### any order -/
def clsOp : Op → Nat
  | .alloc _ | .box _ _ | .store _ _ _ | .makeMap _ _ | .mapUpdate _ _ _ _ => 2
  | .buildSlice _ _ _ | .makeSlice _ _ _ => 1
  | .call { callee := .value f, argTypes := ts, .. } => if heavy f ts = true then 2 else 1
  | .call { callee := .builtin .append, .. } => 1
  | _ => 0

def isLoad : Op → Bool
  | .load _ _ => true
  | _ => false
def isAlloc : Op → Bool
  | .alloc _ => true
  | _ => false
/-- What takes a part of what was answered. -/
def isExtr : Op → Bool
  | .extract (.tmp _) _ => true
  | _ => false
def indepOps (ops : Array Oper) (x y : Oper) : Bool :=
  Oper.apart ops x y && ((match clsOp x.op, clsOp y.op with | 0, 0 => true | 0, 1 => true | 1, 0 => true | _, _ => false) || (decide (clsOp x.op ≤ 1) && isAlloc y.op && y.guard.isNone))

def ancTab (ops : Array Oper) : List (List Nat) :=
  ops.toList.foldl (fun acc o => acc ++ [(o.after.toList.filter fun e => Region.binds .any e).flatMap fun e => e.on :: acc.getD e.on []]) []

/-- The boxes that later stores go to which this load need not come before; a store's own, if what reads no memory need not come before it. -/
def sepsOf (ops : Array Oper) (i : Nat) : List Tmp :=
  match ops[i]? with
  | none => []
  | some oi => match oi.op with
    | .load _ _ => (List.range ops.size).filterMap fun j => if i < j && !((ancTab ops).getD j []).contains i then
        (match ops[j]? with | some o => (match o.op with | .store _ (.tmp b) _ => some b | _ => none) | none => none) else none
    | .store _ (.tmp b) _ => if (List.range i).any fun j => !((ancTab ops).getD i []).contains j && (match ops[j]? with | some oj => clsOp oj.op == 0 && !isLoad oj.op && !(isExtr oj.op && oj.guard.isNone) | none => false) then [b] else []
    | _ => []
def sepOps (ops : Array Oper) (x y : Oper) : Bool :=
  Oper.apart ops x y && (clsOp x.op == 0) && (match y.op, y.dst, y.guard with | .store _ (.tmp _) _, none, none => true | _, _, _ => false)
/-- A part of an answer is taken, beside a store. -/
def xtrOps (ops : Array Oper) (x y : Oper) : Bool :=
  Oper.apart ops x y && (isExtr x.op && x.guard.isNone) && (match y.op, y.dst, y.guard with | .store _ (.tmp _) _, none, none => true | _, _, _ => false)
/-- The statement's edges order all that may not change places. -/
def drawOk (ops : Array Oper) : Bool :=
  let tab := ancTab ops
  ((List.range ops.size).all fun i => (match ops[i]? with | some oi => !isLoad oi.op | none => true) || (sepsOf ops i).all fun b => ops.toList.all fun o => o.dst != some b) &&
  (List.range ops.size).all fun i => match ops[i]? with
    | none => false
    | some o =>
      (o.after.toList.all fun e => !Region.binds .any e || decide (e.on < i)) &&
      ((tab.getD i []).all fun x => o.after.toList.any fun e => Region.binds .any e && (e.on == x || (tab.getD e.on []).contains x)) &&
      (List.range i).all fun j => (tab.getD i []).contains j || (match ops[j]? with | some oj => indepOps ops oj o || (xtrOps ops oj o || sepOps ops oj o) | none => false)

theorem ev_put (s : St) (d : Option Tmp) (v : PV) (x : Operand) (h : ∀ t, d = some t → x ≠ .tmp t) : (s.put d v).ev x = s.ev x := by
  cases d with
  | none => rfl
  | some d =>
    cases x with
    | tmp t => simp only [St.ev, St.put]; rw [if_neg]; intro e; exact h d rfl (by rw [e])
    | _ => rfl

theorem put_comm (s : St) {d e : Option Tmp} (v u : PV) (h : ∀ t, d = some t → e ≠ some t) : (s.put d v).put e u = (s.put e u).put d v := by
  cases d with
  | none => rfl
  | some d =>
    cases e with
    | none => rfl
    | some e =>
      simp only [St.put, St.mk.injEq, and_true]
      funext t
      by_cases h1 : t = d <;> by_cases h2 : t = e
      · exact absurd (by rw [← h1, h2]) (h d rfl)
      all_goals simp [h1, h2]
      all_goals (intro h3; first | exact absurd (by rw [h3]) (h d rfl) | skip)

theorem put_boxes (s : St) (d : Option Tmp) (v : PV) : (s.put d v).boxes = s.boxes := by cases d <;> rfl
theorem put_next (s : St) (d : Option Tmp) (v : PV) : (s.put d v).next = s.next := by cases d <;> rfl
theorem put_tips (s : St) (d : Option Tmp) (v : PV) : (s.put d v).tips = s.tips := by cases d <;> rfl
theorem put_slot (s : St) (d : Tmp) (v : PV) (t : Nat) : (s.put (some d) v).slots t = if t = d then v else s.slots t := rfl
theorem put_slot_ne (s : St) (d : Option Tmp) (v : PV) (t : Nat) (h : d ≠ some t) : (s.put d v).slots t = s.slots t := by
  cases d with
  | none => rfl
  | some d => rw [put_slot, if_neg]; intro e; exact h (by rw [e])

theorem guard_congr {s s' : St} {ops : Array Oper} {o : Oper} (hn : s'.nt = s.nt) (hs : ∀ t, t ∈ o.looksAt ops → s'.slots t = s.slots t) : guardP s' ops o = guardP s ops o := by
  unfold guardP
  cases hg : o.guard with
  | none => rfl
  | some x =>
    obtain ⟨j, want⟩ := x
    simp only []
    cases hd : (ops[j]?).bind (·.dst) with
    | none => rfl
    | some d =>
      have hmem : d ∈ o.looksAt ops := by simp [Oper.looksAt, hg, hd]
      simp only [hn, hs d hmem]

theorem looks_operand {ops : Array Oper} {o : Oper} {t : Nat} (h : (.tmp t : Operand) ∈ o.op.operands) : t ∈ o.looksAt ops := by
  unfold Oper.looksAt
  refine List.mem_append.2 (.inl (List.mem_filterMap.2 ⟨.tmp t, by simpa using h, rfl⟩))

theorem ev_congr {s s' : St} {ops : Array Oper} {o : Oper} (hs : ∀ t, t ∈ o.looksAt ops → s'.slots t = s.slots t) {x : Operand} (hx : x ∈ o.op.operands) : s'.ev x = s.ev x := by
  cases x with
  | tmp t => exact hs t (looks_operand hx)
  | _ => rfl

/-- A light operation hangs on what it looks at, and on the boxes. -/
theorem light_congr2 {s s' : St} {ops : Array Oper} {o : Oper} (hs : ∀ t, t ∈ o.looksAt ops → s'.slots t = s.slots t) (hb : ∀ t x, o.op = .load t x → loadV P s'.boxes t (s.ev x) = loadV P s.boxes t (s.ev x)) : light P s' o = light P s o := by
  have he : ∀ x, x ∈ o.op.operands → s'.ev x = s.ev x := fun x hx => ev_congr hs hx
  unfold light
  cases ho : o.op <;> rw [ho] at he <;> simp only [Op.operands] at he
  case move x => simp only [he x (by simp)]
  case assign x => simp only [he x (by simp)]
  case pick c x y => simp only [he c (by simp), he x (by simp), he y (by simp)]
  case load t x => simp only [he x (by simp)]; exact hb t x ho
  case fieldAddr t x f => simp only [he x (by simp)]
  case field t x f => simp only [he x (by simp)]
  case indexAddr t x y => simp only [he x (by simp), he y (by simp)]
  case index t x y => simp only [he x (by simp), he y (by simp)]
  case binOp op t x y u => simp only [he x (by simp), he y (by simp)]
  case unOp op t x => simp only [he x (by simp)]
  case convert t u x => simp only [he x (by simp)]
  case extract t i => simp only [he t (by simp)]
  case nilCheck x => simp only [he x (by simp)]
  case build t parts =>
    simp only []
    have : (parts.toList.map fun x => (x.1, s'.ev x.2)) = (parts.toList.map fun x => (x.1, s.ev x.2)) := List.map_congr_left fun x hx => by
      rw [he x.2 (by simpa using ⟨x.1, by simpa using hx⟩)]
    rw [this]
  case slice t x lo hi mx =>
    cases mx with
    | some m => rfl
    | none =>
      have h1 : lo.map s'.ev = lo.map s.ev := by cases lo with | none => rfl | some y => simp [he y (by simp)]
      have h2 : hi.map s'.ev = hi.map s.ev := by cases hi with | none => rfl | some y => simp [he y (by simp)]
      simp only [he x (by simp), h1, h2]
  case makeFunc fn first caps =>
    cases fn <;> simp only []
    have : caps.toList.map s'.ev = caps.toList.map s.ev := List.map_congr_left fun x hx => he x (by simp at hx ⊢; exact .inr hx)
    rw [this]
  case call c =>
    obtain ⟨callee, args, ts⟩ := c
    simp only [Call.operands] at he
    have ha : ∀ x, x ∈ args.toList → s'.ev x = s.ev x := fun x hx => he x (by simp at hx ⊢; exact .inr hx)
    split <;> try rfl
    all_goals (rename_i heq; try (cases heq; done))
    all_goals
      simp only [Op.call.injEq, Call.mk.injEq] at heq
      obtain ⟨rfl, rfl, rfl⟩ := heq
    · split
      · rename_i x t hx _
        rw [ha x (by rw [hx]; simp)]
      · rfl
    · split
      · rename_i x y hx
        rw [ha x (by rw [hx]; simp), ha y (by rw [hx]; simp)]
      · rename_i x y z hx
        rw [ha x (by rw [hx]; simp), ha y (by rw [hx]; simp), ha z (by rw [hx]; simp)]
      · rfl
    · split
      · rename_i x y hx
        rw [ha x (by rw [hx]; simp), ha y (by rw [hx]; simp)]
      · rename_i x y z hx
        rw [ha x (by rw [hx]; simp), ha y (by rw [hx]; simp), ha z (by rw [hx]; simp)]
      · rfl
theorem light_congr {s s' : St} {ops : Array Oper} {o : Oper} (hs : ∀ t, t ∈ o.looksAt ops → s'.slots t = s.slots t) (hb : s'.boxes = s.boxes) : light P s' o = light P s o :=
  light_congr2 hs fun t x _ => by rw [hb]
end
end Go.Proofs.YtphndngifjgeoaaGreatDoor

/- The by-value logic, part L: a statement whose order is open comes to what the text's order comes to; for every program. -/
import Derived.Test.YtphndngifjgeoaaGreatDoorBvK
set_option linter.unusedVariables false
set_option linter.unusedSimpArgs false
namespace Go.Proofs.YtphndngifjgeoaaGreatDoor
section
variable {P : Program}

theorem pi_det {dr : Bool} {ops : Array Oper} {i : Nat} {s : St} {K : St → Prop} (h : PI P dr ops i K s) : ∃ s', PI P dr ops i (fun x => x = s') s ∧ K s' := by
  unfold PI at h
  cases ho : ops[i]? with
  | none => simp only [ho] at h; exact ⟨s, by unfold PI; simp only [ho], h⟩
  | some o =>
    simp only [ho] at h
    cases hg : guardP s ops o with
    | none => simp only [hg] at h
    | some t =>
      cases t with
      | true =>
        simp only [hg] at h
        obtain ⟨s', h1, h2⟩ := pstep_det h
        exact ⟨s', by unfold PI; simp only [ho, hg]; exact h1, h2⟩
      | false =>
        simp only [hg] at h
        exact ⟨_, by unfold PI; simp only [ho, hg]; exact ⟨h.1, by first | rfl | trivial⟩, h.2⟩

theorem pi_mono {dr : Bool} {ops : Array Oper} {i : Nat} {s : St} {K K' : St → Prop} (hk : ∀ s', K s' → K' s') (h : PI P dr ops i K s) : PI P dr ops i K' s := by
  unfold PI at h ⊢
  split at h
  · exact hk _ h
  · split at h
    · exact pstep_mono hk h
    · exact ⟨h.1, hk _ h.2⟩
    · exact h.elim

theorem pseq_mono {dr : Bool} {ops : Array Oper} : ∀ (l : List Nat) {s : St} {K K' : St → Prop}, (∀ s', K s' → K' s') → PSeq P dr ops l K s → PSeq P dr ops l K' s
  | [], s, K, K', hk, h => hk _ h
  | i :: l, s, K, K', hk, h => pi_mono (fun s' hs => pseq_mono l hk hs) h

theorem pseq_det {dr : Bool} {ops : Array Oper} : ∀ (l : List Nat) {s : St} {K : St → Prop}, PSeq P dr ops l K s → ∃ s', PSeq P dr ops l (fun x => x = s') s ∧ K s'
  | [], s, K, h => ⟨s, rfl, h⟩
  | i :: l, s, K, h => by
    obtain ⟨s1, h1, h2⟩ := pi_det (K := PSeq P dr ops l K) h
    obtain ⟨s2, h3, h4⟩ := pseq_det l h2
    exact ⟨s2, pi_mono (fun x hx => by rw [hx]; exact h3) h1, h4⟩

/-- A light operation, or one that is passed over, and its value. -/
def LV (P : Program) (ops : Array Oper) (o : Oper) (s : St) : Option PV :=
  match guardP s ops o with
  | some true => light P s o
  | some false => some (.tup [])
  | none => none

theorem pi_light {dr : Bool} {ops : Array Oper} {i : Nat} {o : Oper} (ho : ops[i]? = some o) (hc : clsOp o.op = 0) {s : St} {K : St → Prop} : PI P dr ops i K s ↔ (∀ d, o.dst = some d → d < s.nt) ∧ ∃ v, LV P ops o s = some v ∧ K (s.put o.dst v) := by
  unfold PI LV
  simp only [ho]
  cases hg : guardP s ops o with
  | none => simp
  | some t =>
    cases t with
    | true => simp only []; exact pstep_light hc
    | false => simp

theorem LV_congr {s s' : St} {ops : Array Oper} {o : Oper} (hs : ∀ t, t ∈ o.looksAt ops → s'.slots t = s.slots t) (hb : s'.boxes = s.boxes) (hn : s'.nt = s.nt) : LV P ops o s' = LV P ops o s := by
  unfold LV
  rw [guard_congr hn hs, light_congr hs hb]

/-- An operation of the middle kind, or one passed over. -/
theorem pi_mid {ops : Array Oper} {i : Nat} {o : Oper} (ho : ops[i]? = some o) (hc : clsOp o.op = 1) {s : St} {K : St → Prop} (h : PI P true ops i K s) :
    (∀ d, o.dst = some d → d < s.nt) ∧ ∃ n t v, K ((s.bump n t).put o.dst v) ∧ ∀ s', Same ops o s s' → ∀ K' : St → Prop, K' ((s'.bump n t).put o.dst v) → PI P true ops i K' s' := by
  unfold PI at h
  simp only [ho] at h
  cases hg : guardP s ops o with
  | none => simp only [hg] at h
  | some b =>
    cases b with
    | true =>
      simp only [hg] at h
      obtain ⟨n, t, v, h1, h2⟩ := pstep_mid (ops := ops) hc h
      refine ⟨h.1, n, t, v, h1, fun s' hs K' hK' => ?_⟩
      unfold PI
      simp only [ho, guard_congr hs.nt hs.slots, hg]
      exact h2 s' hs K' hK'
    | false =>
      simp only [hg] at h
      refine ⟨h.1, s.next, s.tips, .tup [], h.2, fun s' hs K' hK' => ?_⟩
      unfold PI
      simp only [ho, guard_congr hs.nt hs.slots, hg]
      refine ⟨by rw [hs.nt]; exact h.1, ?_⟩
      rw [← hs.next, ← hs.tips] at hK'
      exact hK'

theorem same_put {ops : Array Oper} {o : Oper} (s : St) {d : Option Tmp} (u : PV) (hd : ∀ t, d = some t → t ∉ o.looksAt ops) : Same ops o s (s.put d u) ∧ Same ops o (s.put d u) s := by
  have h1 : ∀ t, t ∈ o.looksAt ops → (s.put d u).slots t = s.slots t := fun t ht => put_slot_ne s d u t (fun e => hd t e ht)
  exact ⟨⟨h1, put_nt s d u, put_next s d u, put_tips s d u⟩, ⟨fun t ht => (h1 t ht).symm, (put_nt s d u).symm, (put_next s d u).symm, (put_tips s d u).symm⟩⟩

theorem put_pushBox (s : St) (d : Option Tmp) (v : PV) (cs : List PV) : (s.put d v).pushBox cs = (s.pushBox cs).put d v := by cases d <;> rfl
/-- A new box hinders no light operation. -/
theorem LV_pushBox {ops : Array Oper} (s : St) (cs : List PV) (o : Oper) {v : PV} (h : LV P ops o s = some v) : LV P ops o (s.pushBox cs) = some v := by
  unfold LV at h ⊢
  have hg : guardP (s.pushBox cs) ops o = guardP s ops o := guard_congr rfl (fun _ _ => rfl)
  rw [hg]
  cases hgs : guardP s ops o with
  | none => rw [hgs] at h; cases h
  | some b =>
    rw [hgs] at h
    cases b with
    | false => exact h
    | true =>
      simp only [] at h ⊢
      by_cases hl : ∃ t x, o.op = .load t x
      · obtain ⟨t, x, ho⟩ := hl
        have e1 : ∀ s : St, light P s o = loadV P s.boxes t (s.ev x) := fun s => by unfold light; rw [ho]
        rw [e1] at h ⊢
        have e2 : (s.pushBox cs).ev x = s.ev x := by cases x <;> rfl
        rw [e2]
        have e3 : (s.pushBox cs).boxes = s.boxes ++ [cs] := rfl
        rw [e3]
        revert h
        generalize s.ev x = y
        intro h
        cases y with
        | box k off =>
          simp only [loadV] at h ⊢
          cases hk : s.boxes[k]? with
          | none => rw [hk] at h; cases h
          | some c => rw [hk] at h; rw [List.getElem?_append_left (List.getElem?_eq_some_iff.1 hk).1, hk]; exact h
        | _ => exact h
      · have := light_congr2 (P := P) (s := s) (s' := s.pushBox cs) (ops := ops) (o := o) (fun _ _ => rfl) (fun t x ho => absurd ⟨t, x, ho⟩ hl)
        rw [this]; exact h
/-- Two operations that may change places. -/
theorem pi_swap {ops : Array Oper} {i j : Nat} {oi oj : Oper} (hoi : ops[i]? = some oi) (hoj : ops[j]? = some oj) (hind : indepOps ops oi oj = true) {s : St} {K : St → Prop} (h : PI P true ops i (PI P true ops j K) s) : PI P true ops j (PI P true ops i K) s := by
  unfold indepOps at hind
  rw [Bool.and_eq_true] at hind
  obtain ⟨hap, hcls⟩ := hind
  obtain ⟨a1, a2, a3⟩ := Oper.apart_spec hap
  have hsl : ∀ (s : St) (v : PV), ∀ t, t ∈ oj.looksAt ops → (s.put oi.dst v).slots t = s.slots t := fun s v t ht => put_slot_ne s _ v t (fun e => a1 t e ht)
  have hsl' : ∀ (s : St) (v : PV), ∀ t, t ∈ oi.looksAt ops → (s.put oj.dst v).slots t = s.slots t := fun s v t ht => put_slot_ne s _ v t (fun e => a3 t e ht)
  have hcomm : ∀ (s : St) (v u : PV), (s.put oi.dst v).put oj.dst u = (s.put oj.dst u).put oi.dst v := fun s v u => put_comm s v u a2
  rcases Bool.or_eq_true_iff.1 hcls with hcls | hal
  rotate_left
  · simp only [Bool.and_eq_true, decide_eq_true_eq] at hal
    obtain ⟨⟨hci, hal⟩, hgd⟩ := hal
    have hgd : oj.guard = none := by simpa using hgd
    have hop : ∃ t, oj.op = .alloc t := by
      cases ho : oj.op <;> rw [ho] at hal <;> simp [isAlloc] at hal
      exact ⟨_, rfl⟩
    obtain ⟨t, hop⟩ := hop
    have hg : ∀ s', guardP s' ops oj = some true := fun s' => by unfold guardP; rw [hgd]
    have pj : ∀ (s : St) (K : St → Prop), PI P true ops j K s ↔ (∀ d, oj.dst = some d → d < s.nt) ∧ ∃ z, tzero P t = some z ∧ z.sized = true ∧ aOk P t z = true ∧ K ((s.pushBox z.cells).put oj.dst (.box s.boxes.length 0)) := fun s K => by
      unfold PI
      simp only [hoj, hg]
      unfold PStep
      simp only [hop]
    by_cases hc0 : clsOp oi.op = 0
    · rw [pi_light hoi hc0] at h
      obtain ⟨hdi, vi, hvi, h⟩ := h
      rw [pj] at h
      obtain ⟨hdj, z, k1, k2, k3, hK⟩ := h
      rw [pj]
      refine ⟨by rw [put_nt] at hdj; exact hdj, z, k1, k2, k3, ?_⟩
      rw [pi_light hoi hc0]
      refine ⟨by rw [put_nt]; exact hdi, vi, ?_, ?_⟩
      · rw [LV_congr (hsl' (s.pushBox z.cells) _) (put_boxes _ _ _) (put_nt _ _ _)]
        exact LV_pushBox s z.cells oi hvi
      · rw [put_boxes, put_pushBox, hcomm] at hK
        exact hK
    · have hc1 : clsOp oi.op = 1 := by omega
      obtain ⟨hdi, n, tt, vi, hK, hall⟩ := pi_mid hoi hc1 h
      rw [pj] at hK
      obtain ⟨hdj, z, k1, k2, k3, hK⟩ := hK
      rw [pj]
      refine ⟨by rw [put_nt] at hdj; exact hdj, z, k1, k2, k3, ?_⟩
      refine hall _ ⟨fun q hq => put_slot_ne (s.pushBox z.cells) _ _ q (fun e => a3 q e hq), put_nt _ _ _, put_next _ _ _, put_tips _ _ _⟩ _ ?_
      rw [put_boxes, put_pushBox, hcomm] at hK
      rw [bump_put]
      exact hK
  split at hcls
  · rename_i hci hcj
    rw [pi_light hoi hci] at h
    obtain ⟨hdi, vi, hvi, h⟩ := h
    rw [pi_light hoj hcj] at h
    obtain ⟨hdj, vj, hvj, h⟩ := h
    rw [LV_congr (hsl s vi) (put_boxes s _ vi) (put_nt s _ vi)] at hvj
    rw [pi_light hoj hcj]
    refine ⟨by rw [put_nt] at hdj; exact hdj, vj, hvj, ?_⟩
    rw [pi_light hoi hci]
    refine ⟨by rw [put_nt]; exact hdi, vi, ?_, by rw [← hcomm]; exact h⟩
    rw [LV_congr (hsl' s vj) (put_boxes s _ vj) (put_nt s _ vj)]; exact hvi
  · rename_i hci hcj
    rw [pi_light hoi hci] at h
    obtain ⟨hdi, vi, hvi, h⟩ := h
    obtain ⟨hdj, n, t, vj, hK, hall⟩ := pi_mid hoj hcj h
    refine hall s (same_put s vi a1).2 _ ?_
    rw [pi_light hoi hci]
    refine ⟨by rw [put_nt]; exact hdi, vi, ?_, ?_⟩
    · have : LV P ops oi (s.bump n t) = LV P ops oi s := LV_congr (fun _ _ => rfl) rfl rfl
      rw [LV_congr (hsl' (s.bump n t) vj) (put_boxes _ _ vj) (put_nt _ _ vj), this]
      exact hvi
    · rw [bump_put, hcomm] at hK
      exact hK
  · rename_i hci hcj
    obtain ⟨hdi, n, t, vi, hK, hall⟩ := pi_mid hoi hci h
    rw [pi_light hoj hcj] at hK
    obtain ⟨hdj, vj, hvj, hK⟩ := hK
    have e1 : LV P ops oj (s.bump n t) = LV P ops oj s := LV_congr (fun _ _ => rfl) rfl rfl
    rw [LV_congr (hsl (s.bump n t) vi) (put_boxes _ _ vi) (put_nt _ _ vi), e1] at hvj
    rw [pi_light hoj hcj]
    refine ⟨by rw [put_nt] at hdj; exact hdj, vj, hvj, ?_⟩
    refine hall _ (same_put s vj a3).1 _ ?_
    rw [bump_put, ← hcomm]
    exact hK
  · cases hcls

/-- An operation that all before it may change places with comes first. -/
theorem pseq_bubble {ops : Array Oper} {i : Nat} {oi : Oper} (hoi : ops[i]? = some oi) {K : St → Prop} (l2 : List Nat) : ∀ (l1 : List Nat) {s : St}, (∀ j, j ∈ l1 → ∃ oj, ops[j]? = some oj ∧ indepOps ops oj oi = true) → PSeq P true ops (l1 ++ i :: l2) K s → PI P true ops i (PSeq P true ops (l1 ++ l2) K) s
  | [], s, _, h => h
  | j :: l1, s, hj, h => by
    obtain ⟨oj, hoj, hind⟩ := hj j (by simp)
    have h1 : PI P true ops j (PI P true ops i (PSeq P true ops (l1 ++ l2) K)) s := pi_mono (fun s' hs => pseq_bubble hoi l2 l1 (fun k hk => hj k (by simp [hk])) hs) h
    exact pi_swap hoj hoi hind h1

/-- What an operation reads a box through. -/
def adOf (op : Op) (s : St) : Option PV := match op with | .load _ x => some (s.ev x) | _ => none
/-- The place that is written is a box, and not the one that is read. -/
def sepP (x : Option PV) (y : PV) : Prop := ∃ k o, y = .box k o ∧ ∀ k' o', x = some (.box k' o') → k' ≠ k
def sepL (x : Option PV) (s : St) : List Tmp → Prop
  | [] => True
  | b :: bs => sepP x (s.slots b) ∧ sepL x s bs
theorem sepL_mem {x : Option PV} {s : St} : ∀ {l : List Tmp}, sepL x s l → ∀ b, b ∈ l → sepP x (s.slots b)
  | b :: bs, h, c, hc => by
    rcases List.mem_cons.1 hc with e | e
    · subst e; exact h.1
    · exact sepL_mem h.2 c e
theorem sepL_of {x : Option PV} {s : St} : ∀ {l : List Tmp}, (∀ b, b ∈ l → sepP x (s.slots b)) → sepL x s l
  | [], _ => trivial
  | b :: bs, h => ⟨h b (by simp), sepL_of fun c hc => h c (by simp [hc])⟩
def sepC (ops : Array Oper) (i : Nat) (s : St) : Prop := match ops[i]? with | some o => sepL (adOf o.op s) s (sepsOf ops i) | none => True
/-- An operation of a statement whose order is open. -/
def PIS (P : Program) (ops : Array Oper) (i : Nat) (K : St → Prop) (s : St) : Prop := sepC ops i s ∧ PI P true ops i K s
def PSeqS (P : Program) (ops : Array Oper) : List Nat → (St → Prop) → St → Prop
  | [], K => K
  | i :: is, K => PIS P ops i (PSeqS P ops is K)
def PSeqD (P : Program) (dr : Bool) (ops : Array Oper) (l : List Nat) (K : St → Prop) (s : St) : Prop := if dr = true then PSeqS P ops l K s else PSeq P false ops l K s
theorem pseqS_mono {ops : Array Oper} : ∀ (l : List Nat) {s : St} {K K' : St → Prop}, (∀ s', K s' → K' s') → PSeqS P ops l K s → PSeqS P ops l K' s
  | [], s, K, K', hk, h => hk _ h
  | i :: l, s, K, K', hk, h => ⟨h.1, pi_mono (fun s' hs => pseqS_mono l hk hs) h.2⟩
theorem pseqS_det {ops : Array Oper} : ∀ (l : List Nat) {s : St} {K : St → Prop}, PSeqS P ops l K s → ∃ s', PSeqS P ops l (fun x => x = s') s ∧ K s'
  | [], s, K, h => ⟨s, rfl, h⟩
  | i :: l, s, K, h => by
    obtain ⟨s1, h1, h2⟩ := pi_det (K := PSeqS P ops l K) h.2
    obtain ⟨s2, h3, h4⟩ := pseqS_det l h2
    exact ⟨s2, ⟨h.1, pi_mono (fun x hx => by rw [hx]; exact h3) h1⟩, h4⟩
theorem pseqD_mono {dr : Bool} {ops : Array Oper} (l : List Nat) {s : St} {K K' : St → Prop} (hk : ∀ s', K s' → K' s') (h : PSeqD P dr ops l K s) : PSeqD P dr ops l K' s := by
  cases dr with
  | true => exact pseqS_mono l hk h
  | false => exact pseq_mono l hk h
theorem pseqD_det {dr : Bool} {ops : Array Oper} (l : List Nat) {s : St} {K : St → Prop} (h : PSeqD P dr ops l K s) : ∃ s', PSeqD P dr ops l (fun x => x = s') s ∧ K s' := by
  cases dr with
  | true => obtain ⟨s', h1, h2⟩ := pseqS_det l h; exact ⟨s', h1, h2⟩
  | false => obtain ⟨s', h1, h2⟩ := pseq_det l h; exact ⟨s', h1, h2⟩

/-! ### a store to a box beside a light operation -/
theorem ev_setBox (s : St) (k : Nat) (cs : List PV) (x : Operand) : (s.setBox k cs).ev x = s.ev x := by cases x <;> rfl
theorem light_setBox (s : St) (k : Nat) (cs : List PV) (o : Oper) (h : ∀ k' o', adOf o.op s = some (.box k' o') → k' ≠ k) : light P (s.setBox k cs) o = light P s o := by
  refine light_congr2 (ops := #[]) (fun _ _ => rfl) fun t x ho => ?_
  have h2 : ∀ k' o', s.ev x = .box k' o' → k' ≠ k := fun k' o' e => h k' o' (by rw [ho]; simp only [adOf, e])
  generalize s.ev x = v at h2
  cases v with
  | box k' o' =>
    have hne := h2 k' o' rfl
    have : (s.setBox k cs).boxes[k']? = s.boxes[k']? := by
      simp only [St.setBox]; rw [List.getElem?_set_ne (Ne.symm hne)]
    simp only [loadV, this]
  | _ => rfl
theorem LV_setBox {ops : Array Oper} (s : St) (k : Nat) (cs : List PV) (o : Oper) (h : ∀ k' o', adOf o.op s = some (.box k' o') → k' ≠ k) : LV P ops o (s.setBox k cs) = LV P ops o s := by
  unfold LV
  have : guardP (s.setBox k cs) ops o = guardP s ops o := guard_congr rfl (fun _ _ => rfl)
  rw [this, light_setBox s k cs o h]
theorem adOf_congr {ops : Array Oper} {o : Oper} {s s' : St} (hs : ∀ t, t ∈ o.looksAt ops → s'.slots t = s.slots t) : adOf o.op s' = adOf o.op s := by
  unfold adOf
  split
  · rename_i t x ho
    rw [ev_congr (ops := ops) (o := o) hs (by rw [ho]; simp [Op.operands])]
  · rfl
theorem put_setBox (s : St) (d : Option Tmp) (v : PV) (k : Nat) (cs : List PV) : (s.put d v).setBox k cs = (s.setBox k cs).put d v := by cases d <;> rfl

theorem updL_get (i : Sid) (z j c : Nat) (vs : List PV) : ∀ (l : List PV) (k : Nat), (PV.updL i z j c vs l)[k]? = (l[k]?).map (PV.upd i z j c vs)
  | [], k => by simp [PV.updL]
  | p :: ps, 0 => by simp [PV.updL]
  | p :: ps, k + 1 => by simp [PV.updL, updL_get i z j c vs ps k]
theorem extract_upd {i : Sid} {z j c ix : Nat} {vs : List PV} {x v : PV} (h : extractV ix x = some v) : extractV ix (x.upd i z j c vs) = some (v.upd i z j c vs) := by
  cases x with
  | tup cs =>
    have h : cs[ix]? = some v := h
    have e : (PV.tup cs).upd i z j c vs = .tup (PV.updL i z j c vs cs) := by simp [PV.upd]
    rw [e]
    show (PV.updL i z j c vs cs)[ix]? = _
    rw [updL_get, h]; rfl
  | _ => simp [extractV] at h
theorem put_upd (s : St) (d : Option Tmp) (v : PV) (i : Sid) (z j c : Nat) (vs : List PV) : (s.put d v).upd i z j c vs = (s.upd i z j c vs).put d (v.upd i z j c vs) := by
  cases d with
  | none => rfl
  | some d =>
    simp only [St.upd, St.put]
    congr 1
    funext t
    by_cases e : t = d
    · simp [e]
    · simp [e]
theorem pis_swap {ops : Array Oper} {i j : Nat} {oi oj : Oper} (hw : ∀ q oq b, ops[q]? = some oq → b ∈ sepsOf ops q → (∀ o, o ∈ ops.toList → o.dst ≠ some b) ∨ b ∈ oq.looksAt ops) (hoi : ops[i]? = some oi) (hoj : ops[j]? = some oj) (hind : indepOps ops oi oj = true ∨ xtrOps ops oi oj = true ∨ (sepOps ops oi oj = true ∧ ∀ t b y, oj.op = .store t (.tmp b) y → (isLoad oi.op = true ∧ b ∈ sepsOf ops i) ∨ (isLoad oi.op = false ∧ b ∈ sepsOf ops j)))
    {s : St} {K : St → Prop} (h : PIS P ops i (PIS P ops j K) s) : PIS P ops j (PIS P ops i K) s := by
  obtain ⟨hsi, h⟩ := h
  have hmi : oi ∈ ops.toList := by have := Array.mem_of_getElem? hoi; simpa using this
  have hmj : oj ∈ ops.toList := by have := Array.mem_of_getElem? hoj; simpa using this
  rcases hind with hind | hind | ⟨hsep, hmem⟩
  · have hap : Oper.apart ops oi oj = true := by unfold indepOps at hind; rw [Bool.and_eq_true] at hind; exact hind.1
    obtain ⟨a1, a2, a3⟩ := Oper.apart_spec hap
    have sepKeep : ∀ (q : Nat) (o o' : Oper) (s s' : St), ops[q]? = some o → (∀ t, t ∈ o.looksAt ops → s'.slots t = s.slots t) → (∀ b, b ∈ sepsOf ops q → s'.slots b = s.slots b) → sepC ops q s → sepC ops q s' := by
      intro q o o' s s' hq h1 h2 h3
      unfold sepC at h3 ⊢
      rw [hq] at h3 ⊢
      simp only at h3 ⊢
      rw [adOf_congr h1]
      exact sepL_of fun b hb => by rw [h2 b hb]; exact sepL_mem h3 b hb
    -- j's condition holds before i has run
    have hdet : sepC ops j s := by
      obtain ⟨s1, g1, g2⟩ := pi_det h
      have hs1 : ∃ (s0 : St) (v : PV), s0.slots = s.slots ∧ s1 = s0.put oi.dst v := by
        unfold indepOps at hind
        rw [Bool.and_eq_true] at hind
        have hci : clsOp oi.op = 0 ∨ clsOp oi.op = 1 := by
          rcases Bool.or_eq_true_iff.1 hind.2 with hcls | hal
          · split at hcls
            · rename_i hci _; exact .inl hci
            · rename_i hci _; exact .inl hci
            · rename_i hci _; exact .inr hci
            · cases hcls
          · simp only [Bool.and_eq_true, decide_eq_true_eq] at hal
            have := hal.1.1; omega
        rcases hci with hci | hci
        · rw [pi_light hoi hci] at g1; obtain ⟨_, v, _, e⟩ := g1; exact ⟨s, v, rfl, e.symm⟩
        · obtain ⟨_, n, t, v, e, _⟩ := pi_mid hoi hci g1; exact ⟨s.bump n t, v, rfl, e.symm⟩
      obtain ⟨s0, v, hs0, rfl⟩ := hs1
      refine sepKeep j oj oi _ s hoj (fun t ht => ?_) (fun b hb => ?_) g2.1
      · rw [put_slot_ne s0 oi.dst v t (fun e => a1 t e ht), hs0]
      · rw [put_slot_ne s0 oi.dst v b (fun e => by rcases hw j oj b hoj hb with k | k; exact k oi hmi e; exact a1 b e k), hs0]
    refine ⟨hdet, ?_⟩
    have h2 : PI P true ops i (PI P true ops j K) s := pi_mono (fun s' hs => hs.2) h
    have h3 := pi_swap hoi hoj hind h2
    obtain ⟨s1, g1, g2⟩ := pi_det h3
    refine pi_mono (fun s' hs => ?_) g1
    subst hs
    refine ⟨?_, g2⟩
    have hs1 : ∃ (s0 : St) (v : PV), s0.slots = s.slots ∧ s' = s0.put oj.dst v := by
      unfold indepOps at hind
      rw [Bool.and_eq_true] at hind
      rcases Bool.or_eq_true_iff.1 hind.2 with hcls | hal
      · split at hcls
        · rename_i _ hcj; rw [pi_light hoj hcj] at g1; obtain ⟨_, v, _, e⟩ := g1; exact ⟨s, v, rfl, e.symm⟩
        · rename_i _ hcj; obtain ⟨_, n, t, v, e, _⟩ := pi_mid hoj hcj g1; exact ⟨s.bump n t, v, rfl, e.symm⟩
        · rename_i _ hcj; rw [pi_light hoj hcj] at g1; obtain ⟨_, v, _, e⟩ := g1; exact ⟨s, v, rfl, e.symm⟩
        · cases hcls
      · simp only [Bool.and_eq_true, decide_eq_true_eq] at hal
        obtain ⟨⟨_, hal⟩, hgd⟩ := hal
        have hgd : oj.guard = none := by simpa using hgd
        have hop : ∃ t, oj.op = .alloc t := by
          cases ho : oj.op <;> rw [ho] at hal <;> simp [isAlloc] at hal
          exact ⟨_, rfl⟩
        obtain ⟨t, hop⟩ := hop
        have hg : guardP s ops oj = some true := by unfold guardP; rw [hgd]
        unfold PI at g1
        simp only [hoj, hg] at g1
        unfold PStep at g1
        simp only [hop] at g1
        obtain ⟨_, z, _, _, _, e⟩ := g1
        exact ⟨s.pushBox z.cells, _, rfl, e.symm⟩
    obtain ⟨s0, v, hs0, rfl⟩ := hs1
    refine sepKeep i oi oj s _ hoi (fun t ht => ?_) (fun b hb => ?_) hsi
    · rw [put_slot_ne s0 oj.dst v t (fun e => a3 t e ht), hs0]
    · rw [put_slot_ne s0 oj.dst v b (fun e => by rcases hw i oi b hoi hb with k | k; exact k oj hmj e; exact a3 b e k), hs0]
  · unfold xtrOps at hind
    rw [Bool.and_eq_true, Bool.and_eq_true, Bool.and_eq_true] at hind
    obtain ⟨⟨hap, hex, hgi⟩, hst⟩ := hind
    obtain ⟨a1, a2, a3⟩ := Oper.apart_spec hap
    have hgi : oi.guard = none := by simpa using hgi
    obtain ⟨x, ix, hoe⟩ : ∃ x ix, oi.op = .extract (.tmp x) ix := by
      cases ho : oi.op <;> rw [ho] at hex <;> try (simp [isExtr] at hex; done)
      rename_i x ix
      cases x <;> simp [isExtr] at hex
      exact ⟨_, _, rfl⟩
    have hci : clsOp oi.op = 0 := by rw [hoe]; rfl
    have hse : ∀ s : St, sepC ops i s := by
      intro s
      unfold sepC
      rw [hoi]
      simp only []
      have : sepsOf ops i = [] := by unfold sepsOf; rw [hoi]; simp only [hoe]
      rw [this]
      trivial
    have hlv : ∀ s : St, LV P ops oi s = extractV ix (s.slots x) := by
      intro s
      unfold LV guardP light
      rw [hgi]
      simp only [hoe]
      rfl
    split at hst
    · rename_i t b y hop hdst hgd
      rw [pi_light hoi hci] at h
      obtain ⟨hdi, vi, hvi, hsj, h⟩ := h
      have hg : ∀ s', guardP s' ops oj = some true := fun s' => by unfold guardP; rw [hgd]
      unfold PI at h
      simp only [hoj, hg] at h
      obtain ⟨hdj, h⟩ := h
      rw [hop] at h
      simp only [] at h
      have e1 : (s.put oi.dst vi).ev (.tmp b) = s.ev (.tmp b) := ev_congr (ops := ops) (o := oj) (fun t ht => put_slot_ne s _ vi t (fun e => a1 t e ht)) (by rw [hop]; simp [Op.operands])
      have e2 : (s.put oi.dst vi).ev y = s.ev y := ev_congr (ops := ops) (o := oj) (fun t ht => put_slot_ne s _ vi t (fun e => a1 t e ht)) (by rw [hop]; simp [Op.operands])
      rw [e1, e2] at h
      refine ⟨?_, ?_⟩
      · unfold sepC
        rw [hoj]
        simp only []
        have : adOf oj.op s = none := by rw [hop]; rfl
        rw [this]
        refine sepL_of fun b' hb' => ?_
        have hsj' := hsj
        unfold sepC at hsj'
        rw [hoj] at hsj'
        simp only [] at hsj'
        have := sepL_mem hsj' b' hb'
        rw [put_slot_ne s _ vi b' (fun e => by rcases hw j oj b' hoj hb' with k | k; exact k oi hmi e; exact a1 b' e k)] at this
        obtain ⟨k1, o1, h7, h8⟩ := this
        exact ⟨k1, o1, h7, fun _ _ e => by cases e⟩
      · unfold PI
        simp only [hoj, hg]
        refine ⟨(by rw [hdst]; intro d hd; cases hd), ?_⟩
        rw [hop]
        simp only []
        unfold storeP at h ⊢
        obtain ⟨h1, h2, h3, h⟩ := h
        refine ⟨h1, h2, h3, ?_⟩
        rw [hlv] at hvi
        generalize s.ev (.tmp b) = ad at h ⊢
        cases ad with
        | box k o =>
          simp only [] at h ⊢
          obtain ⟨cs, h4, h5, h6⟩ := h
          rw [put_boxes] at h4
          rw [hdst] at h6 ⊢
          refine ⟨cs, h4, h5, hse _, ?_⟩
          rw [pi_light hoi hci]
          refine ⟨hdi, vi, by rw [hlv]; exact hvi, ?_⟩
          rw [put_setBox] at h6
          exact h6
        | elt i' z es j' c =>
          simp only [] at h ⊢
          obtain ⟨h4, h5, h6, h7, h8, h9⟩ := h
          rw [hdst] at h9 ⊢
          refine ⟨h4, h5, h6, h7, h8, hse _, ?_⟩
          rw [pi_light hoi hci]
          refine ⟨hdi, vi.upd i' z j' c (PV.poisonL [i'.f] (s.ev y).cells), ?_, ?_⟩
          · rw [hlv]
            exact extract_upd hvi
          · rw [put_upd] at h9
            exact h9
        | _ => exact h.elim
    · cases hst
  · unfold sepOps at hsep
    rw [Bool.and_eq_true, Bool.and_eq_true] at hsep
    obtain ⟨⟨hap, hci⟩, hst⟩ := hsep
    obtain ⟨a1, a2, a3⟩ := Oper.apart_spec hap
    have hci : clsOp oi.op = 0 := by simpa using hci
    split at hst
    · rename_i t b y hop hdst hgd
      have hb := hmem t b y hop
      rw [pi_light hoi hci] at h
      obtain ⟨hdi, vi, hvi, hsj, h⟩ := h
      have hsb : sepP (adOf oi.op s) (s.slots b) := by
        rcases hb with ⟨_, hb⟩ | ⟨hnl, hb⟩
        · unfold sepC at hsi
          rw [hoi] at hsi
          exact sepL_mem hsi b hb
        · have hsj' := hsj
          unfold sepC at hsj'
          rw [hoj] at hsj'
          have h9 := sepL_mem hsj' b hb
          rw [put_slot_ne s _ vi b (fun e => a1 b e (looks_operand (by rw [hop]; simp [Op.operands])))] at h9
          obtain ⟨k1, o1, h7, _⟩ := h9
          have had : adOf oi.op s = none := by
            unfold adOf
            split
            · rename_i t x ho; rw [ho] at hnl; simp [isLoad] at hnl
            · rfl
          rw [had]
          exact ⟨k1, o1, h7, fun _ _ e => by cases e⟩
      obtain ⟨k, o, hbx, hne⟩ := hsb
      have hg : ∀ s', guardP s' ops oj = some true := fun s' => by unfold guardP; rw [hgd]
      unfold PI at h
      simp only [hoj, hg] at h
      obtain ⟨hdj, h⟩ := h
      rw [hop] at h
      simp only [] at h
      have e1 : (s.put oi.dst vi).ev (.tmp b) = s.ev (.tmp b) := ev_congr (ops := ops) (o := oj) (fun t ht => put_slot_ne s _ vi t (fun e => a1 t e ht)) (by rw [hop]; simp [Op.operands])
      have e2 : (s.put oi.dst vi).ev y = s.ev y := ev_congr (ops := ops) (o := oj) (fun t ht => put_slot_ne s _ vi t (fun e => a1 t e ht)) (by rw [hop]; simp [Op.operands])
      rw [e1, e2] at h
      unfold storeP at h
      simp only [St.ev, hbx] at h
      obtain ⟨h1, h2, h3, cs, h4, h5, h6⟩ := h
      rw [put_boxes] at h4
      rw [hdst] at h6
      have hK : K ((s.setBox k (putCells cs o (s.ev y).cells)).put oi.dst vi) := by
        rw [← put_setBox]; exact h6
      refine ⟨?_, ?_⟩
      · unfold sepC
        rw [hoj]
        simp only []
        have : adOf oj.op s = none := by rw [hop]; rfl
        rw [this]
        refine sepL_of fun b' hb' => ?_
        have hsj' := hsj
        unfold sepC at hsj'
        rw [hoj] at hsj'
        simp only [] at hsj'
        have := sepL_mem hsj' b' hb'
        rw [put_slot_ne s _ vi b' (fun e => by rcases hw j oj b' hoj hb' with k | k; exact k oi hmi e; exact a1 b' e k)] at this
        obtain ⟨k1, o1, h7, h8⟩ := this
        exact ⟨k1, o1, h7, fun _ _ e => by cases e⟩
      · unfold PI
        simp only [hoj, hg]
        refine ⟨(by rw [hdst]; intro d hd; cases hd), ?_⟩
        rw [hop]
        simp only []
        unfold storeP
        simp only [St.ev, hbx]
        refine ⟨h1, h2, h3, cs, h4, h5, ?_⟩
        rw [hdst]
        refine ⟨?_, ?_⟩
        · unfold sepC at hsi ⊢
          rw [hoi] at hsi ⊢
          simp only [] at hsi ⊢
          have hkk : ∀ c, adOf oi.op ((s.setBox k c).put none (.tup [])) = adOf oi.op s := fun c => adOf_congr (ops := ops) fun _ _ => rfl
          rw [hkk]
          exact sepL_of fun b' hb' => sepL_mem hsi b' hb'
        · rw [pi_light hoi hci]
          refine ⟨hdi, vi, ?_, hK⟩
          exact (LV_setBox s k _ oi hne).trans hvi
    · cases hst
theorem pseqS_bubble {ops : Array Oper} {i : Nat} {oi : Oper} (hw : ∀ q oq b, ops[q]? = some oq → b ∈ sepsOf ops q → (∀ o, o ∈ ops.toList → o.dst ≠ some b) ∨ b ∈ oq.looksAt ops) (hoi : ops[i]? = some oi) {K : St → Prop} (l2 : List Nat) : ∀ (l1 : List Nat) {s : St}, (∀ j, j ∈ l1 → ∃ oj, ops[j]? = some oj ∧ (indepOps ops oj oi = true ∨ xtrOps ops oj oi = true ∨ (sepOps ops oj oi = true ∧ ∀ t b y, oi.op = .store t (.tmp b) y → (isLoad oj.op = true ∧ b ∈ sepsOf ops j) ∨ (isLoad oj.op = false ∧ b ∈ sepsOf ops i)))) → PSeqS P ops (l1 ++ i :: l2) K s → PIS P ops i (PSeqS P ops (l1 ++ l2) K) s
  | [], s, _, h => h
  | j :: l1, s, hj, h => by
    obtain ⟨oj, hoj, hind⟩ := hj j (by simp)
    have h1 : PIS P ops j (PIS P ops i (PSeqS P ops (l1 ++ l2) K)) s := ⟨h.1, pi_mono (fun s' hs => pseqS_bubble hw hoi l2 l1 (fun k hk => hj k (by simp [hk])) hs) h.2⟩
    exact pis_swap hw hoj hoi hind h1

theorem drawOk_spec {ops : Array Oper} (h : drawOk ops = true) {i : Nat} {o : Oper} (ho : ops[i]? = some o) :
    (∀ e, e ∈ o.after.toList → Region.binds .any e = true → e.on < i) ∧ (∀ x, x ∈ (ancTab ops).getD i [] → ∃ e, e ∈ o.after.toList ∧ Region.binds .any e = true ∧ (e.on = x ∨ x ∈ (ancTab ops).getD e.on [])) ∧
    (∀ j, j < i → j ∈ (ancTab ops).getD i [] ∨ ∃ oj, ops[j]? = some oj ∧ (indepOps ops oj o = true ∨ xtrOps ops oj o = true ∨ (sepOps ops oj o = true ∧ ∀ t b y, o.op = .store t (.tmp b) y → (isLoad oj.op = true ∧ b ∈ sepsOf ops j) ∨ (isLoad oj.op = false ∧ b ∈ sepsOf ops i)))) ∧ (∀ q oq b, ops[q]? = some oq → b ∈ sepsOf ops q → (∀ o, o ∈ ops.toList → o.dst ≠ some b) ∨ b ∈ oq.looksAt ops) := by
  unfold drawOk at h
  simp only [Bool.and_eq_true] at h
  obtain ⟨h0, h⟩ := h
  have hin := (Array.getElem?_eq_some_iff.1 ho).1
  have hD : ∀ q oq b, ops[q]? = some oq → b ∈ sepsOf ops q → (∀ o, o ∈ ops.toList → o.dst ≠ some b) ∨ b ∈ oq.looksAt ops := by
    intro q oq b hoq hb
    have hq := (Array.getElem?_eq_some_iff.1 hoq).1
    by_cases hl : isLoad oq.op = true
    · left
      intro o hoo e
      have h1 := List.all_eq_true.1 h0 q (List.mem_range.2 hq)
      rw [hoq] at h1
      simp only [hl, Bool.not_true, Bool.false_or] at h1
      have h2 := List.all_eq_true.1 h1 b hb
      have h3 := List.all_eq_true.1 h2 o hoo
      rw [e] at h3; simp at h3
    · right
      unfold sepsOf at hb
      rw [hoq] at hb
      simp only [] at hb
      split at hb
      · rename_i t x ho; rw [ho] at hl; simp [isLoad] at hl
      · rename_i t b' y ho
        split at hb
        · simp at hb; subst hb
          exact looks_operand (by rw [ho]; simp [Op.operands])
        · simp at hb
      · simp at hb
  simp only [List.all_eq_true, List.mem_range] at h
  have hi := h i hin
  simp only [ho, Bool.and_eq_true, List.all_eq_true, decide_eq_true_eq, List.mem_range, Bool.or_eq_true, List.any_eq_true, beq_iff_eq, List.contains_iff_mem] at hi
  obtain ⟨⟨h1, h2⟩, h3⟩ := hi
  refine ⟨fun e he hb => (h1 e he).resolve_left (by simp [hb]), h2, fun j hj => ?_, hD⟩
  by_cases hc : j ∈ (ancTab ops).getD i []
  · exact .inl hc
  · right
    have h3 := (h3 j hj).resolve_left hc
    cases hoj : ops[j]? with
    | none => simp [hoj] at h3
    | some oj =>
      simp only [hoj, Bool.or_eq_true] at h3
      refine ⟨oj, rfl, ?_⟩
      rcases h3 with h3 | h3
      · exact .inl h3
      by_cases hx : xtrOps ops oj o = true
      · exact .inr (.inl hx)
      · have h3 := h3.resolve_left hx
        refine .inr (.inr ⟨h3, fun t b y hop => ?_⟩)
        by_cases hl : isLoad oj.op = true
        · refine .inl ⟨hl, ?_⟩
          have hlo : ∃ t x, oj.op = .load t x := by
            cases ho' : oj.op <;> rw [ho'] at hl <;> simp [isLoad] at hl
            exact ⟨_, _, rfl⟩
          obtain ⟨t', x', hlo⟩ := hlo
          unfold sepsOf
          rw [hoj]
          simp only [hlo]
          refine List.mem_filterMap.2 ⟨i, by simpa using hin, ?_⟩
          rw [if_pos (by simp only [Bool.and_eq_true, decide_eq_true_eq, Bool.not_eq_true', List.contains_eq_mem, decide_eq_false_iff_not]; exact ⟨hj, hc⟩), ho]
          simp only [hop]
        · have hl : isLoad oj.op = false := by simpa using hl
          refine .inr ⟨hl, ?_⟩
          unfold sepsOf
          rw [ho]
          simp only [hop]
          rw [if_pos]
          · simp
          · refine List.any_eq_true.2 ⟨j, List.mem_range.2 hj, ?_⟩
            unfold sepOps at h3
            simp only [Bool.and_eq_true] at h3
            rw [hoj]
            have hnx : (isExtr oj.op && oj.guard.isNone) = false := by
              cases hb : (isExtr oj.op && oj.guard.isNone) with
              | false => rfl
              | true =>
                exfalso
                apply hx
                unfold xtrOps
                rw [h3.1.1, hb, h3.2]; rfl
            simp only [Bool.and_eq_true, Bool.not_eq_true', hl, hnx]
            exact ⟨by simpa using hc, ⟨h3.1.2, trivial⟩, trivial⟩

def rest (n : Nat) (listed : Array Bool) : List Nat := (List.range n).filter fun i => !listed.getD i true

theorem rest_mem {n i : Nat} {listed : Array Bool} : i ∈ rest n listed ↔ i < n ∧ listed.getD i true = false := by simp [rest]

theorem getD_some {listed : Array Bool} {i : Nat} (hi : i < listed.size) (x y : Bool) : listed.getD i x = listed.getD i y := by
  simp [hi]

/-- In whatever order the edges allow. -/
theorem pany_sound {ops : Array Oper} (hok : drawOk ops = true) {K : St → Prop} {Q : Exit → Act → World → Prop} : ∀ (fuel : Nat) (listed : Array Bool) {bm : List Nat} {L : Lay} {s : St} {a : Act} {w : World}, listed.size = ops.size →
    (∀ i o, ops[i]? = some o → listed.getD i true = true → ∀ e, e ∈ o.after.toList → Region.binds .any e = true → listed.getD e.on true = true) → (rest ops.size listed).length ≤ fuel → Sim bm L s a w → PSeqS P ops (rest ops.size listed) K s →
    (∀ a' w', Goes bm L s w K a' w' → Q .normal a' w') → wpAny P .any ops Q fuel listed a w := by
  intro fuel
  induction fuel with
  | zero =>
    intro listed bm L s a w hsz hcl hlen h hp hq
    have hnil : rest ops.size listed = [] := List.eq_nil_of_length_eq_zero (by omega)
    rw [hnil] at hp
    refine ⟨?_, hq a w ⟨bm, L, s, h, Gua.refl bm s.n0 s.D L w, rfl, fun _ hf => hf, hp⟩⟩
    rw [List.eq_nil_iff_forall_not_mem]
    intro i hi
    have : i ∈ rest ops.size listed := by
      simp only [Region.ready, List.mem_filter, List.mem_range, Bool.and_eq_true] at hi
      rw [rest_mem]; exact ⟨hi.1, by simpa using hi.2.1⟩
    rw [hnil] at this; cases this
  | succ fuel ih =>
    intro listed bm L s a w hsz hcl hlen h hp hq
    refine ⟨fun hready => ?_, fun i hi => ?_⟩
    · -- nothing is ready: nothing is left
      cases hr : rest ops.size listed with
      | nil => rw [hr] at hp; exact hq a w ⟨bm, L, s, h, Gua.refl bm s.n0 s.D L w, rfl, fun _ hf => hf, hp⟩
      | cons i l =>
        exfalso
        have hmin : ∀ j, j < i → j < ops.size → listed.getD j true = true := by
          intro j hj hjn
          cases hb : listed.getD j true with
          | true => rfl
          | false =>
            have hmem : j ∈ rest ops.size listed := rest_mem.2 ⟨hjn, hb⟩
            have hsorted : (rest ops.size listed).Pairwise (· < ·) := List.Pairwise.filter _ List.pairwise_lt_range
            rw [hr] at hmem hsorted
            rcases List.mem_cons.1 hmem with e | e
            · omega
            · have := (List.pairwise_cons.1 hsorted).1 j e; omega
        have hi0 := rest_mem.1 (show i ∈ rest ops.size listed by rw [hr]; simp)
        have ho : ops[i]? = some ops[i] := Array.getElem?_eq_getElem hi0.1
        have : i ∈ Region.ready .any ops listed := by
          simp only [Region.ready, List.mem_filter, List.mem_range, Bool.and_eq_true]
          refine ⟨hi0.1, by rw [hi0.2]; rfl, ?_⟩
          simp only [ho, Option.map_some, Option.getD_some]
          rw [← Array.all_toList, List.all_eq_true]
          intro e he
          cases hb : Region.binds .any e with
          | false => simp
          | true =>
            have hlt := (drawOk_spec hok ho).1 e he hb
            simp only [Bool.not_true, Bool.false_or]
            rw [getD_some (by omega) false true]
            exact hmin e.on hlt (by omega)
        rw [hready] at this; cases this
    · have hi' := hi
      simp only [Region.ready, List.mem_filter, List.mem_range, Bool.and_eq_true] at hi
      obtain ⟨hin, hnl, haf⟩ := hi
      have hnl' : listed.getD i true = false := by simpa using hnl
      have ho : ops[i]? = some ops[i] := Array.getElem?_eq_getElem hin
      have haft : ∀ e, e ∈ (ops[i]).after.toList → Region.binds .any e = true → listed.getD e.on true = true := by
        intro e he hb
        simp only [ho, Option.map_some, Option.getD_some] at haf
        rw [← Array.all_toList, List.all_eq_true] at haf
        have := haf e he
        have hlt := (drawOk_spec hok ho).1 e he hb
        simp only [hb, Bool.not_true, Bool.false_or] at this
        rw [getD_some (by omega) true false]; exact this
      -- all that must come before has come
      have hanc : ∀ (k : Nat) (o : Oper), ops[k]? = some o → (∀ e, e ∈ o.after.toList → Region.binds .any e = true → listed.getD e.on true = true) → ∀ x, x ∈ (ancTab ops).getD k [] → listed.getD x true = true := by
        intro k
        induction k using Nat.strongRecOn with
        | _ k ihk =>
          intro o hok' haf' x hx
          obtain ⟨e, he, hb, hcase⟩ := (drawOk_spec hok hok').2.1 x hx
          rcases hcase with rfl | hx'
          · exact haf' e he hb
          · have hlt := (drawOk_spec hok hok').1 e he hb
            have hkn := (Array.getElem?_eq_some_iff.1 hok').1
            have hoe : ops[e.on]? = some ops[e.on] := Array.getElem?_eq_getElem (by omega)
            exact ihk e.on hlt ops[e.on] hoe (hcl e.on ops[e.on] hoe (haf' e he hb)) x hx'
      have hmem : i ∈ rest ops.size listed := rest_mem.2 ⟨hin, hnl'⟩
      obtain ⟨l1, l2, hsplit⟩ := List.append_of_mem hmem
      have hsorted : (rest ops.size listed).Pairwise (· < ·) := List.Pairwise.filter _ List.pairwise_lt_range
      rw [hsplit] at hsorted hp
      have hl1 : ∀ j, j ∈ l1 → ∃ oj, ops[j]? = some oj ∧ (indepOps ops oj ops[i] = true ∨ xtrOps ops oj ops[i] = true ∨ (sepOps ops oj ops[i] = true ∧ ∀ t b y, ops[i].op = .store t (.tmp b) y → (isLoad oj.op = true ∧ b ∈ sepsOf ops j) ∨ (isLoad oj.op = false ∧ b ∈ sepsOf ops i))) := by
        intro j hj
        have hji : j < i := (List.pairwise_append.1 hsorted).2.2 j hj i (by simp)
        rcases (drawOk_spec hok ho).2.2.1 j hji with hx | hx
        · exfalso
          have h1 := hanc i ops[i] ho haft j hx
          have h2 := (rest_mem.1 (show j ∈ rest ops.size listed by rw [hsplit]; simp [hj])).2
          rw [h1] at h2; cases h2
        · exact hx
      have hb := (pseqS_bubble (drawOk_spec hok ho).2.2.2 ho l2 l1 hl1 hp).2
      have hrest : rest ops.size (listed.setIfInBounds i true) = l1 ++ l2 := by
        have hne : ∀ j, j ∈ l1 ++ l2 → j ≠ i := by
          intro j hj e
          subst e
          rcases List.mem_append.1 hj with hj | hj
          · have := (List.pairwise_append.1 hsorted).2.2 j hj j (by simp); omega
          · have := (List.pairwise_cons.1 (List.pairwise_append.1 hsorted).2.1).1 j hj; omega
        have e1 : rest ops.size (listed.setIfInBounds i true) = (rest ops.size listed).filter fun j => j != i := by
          simp only [rest, List.filter_filter]
          apply List.filter_congr
          intro j hj
          have hjn : j < listed.size := by rw [hsz]; simpa using hj
          by_cases e : j = i
          · subst e; simp [hjn]
          · have : (listed.setIfInBounds i true).getD j true = listed.getD j true := by
              simp [Array.getD_eq_getD_getElem?, Array.getElem?_setIfInBounds_ne (Ne.symm e)]
            rw [this]; simp [e]
        rw [e1, hsplit, List.filter_append, List.filter_cons]
        simp only [bne_self_eq_false, Bool.false_eq_true, if_false]
        rw [← List.filter_append]
        exact List.filter_eq_self.2 fun j hj => by simpa using hne j hj
      refine wpOp_mono (fun a' w' hg => ?_) (pi_sound h hb Q)
      obtain ⟨bm', L', s', h1, h2, h3, h4, h5⟩ := hg
      refine ih (listed.setIfInBounds i true) (by simpa using hsz) ?_ ?_ h1 (by rw [hrest]; exact h5) fun a'' w'' hg' => hq a'' w'' (Goes.trans h.base h2 h3 h4 hg')
      · intro k o hk hlk e he hbe
        have hsub : ∀ x, listed.getD x true = true → (listed.setIfInBounds i true).getD x true = true := by
          intro x hx
          by_cases e : x = i
          · subst e; by_cases hxs : x < listed.size <;> simp [hxs]
          · have e2 : (listed.setIfInBounds i true).getD x true = listed.getD x true := by
              simp [Array.getD_eq_getD_getElem?, Array.getElem?_setIfInBounds_ne (Ne.symm e)]
            rw [e2]; exact hx
        by_cases e' : k = i
        · subst e'
          rw [ho] at hk; cases hk
          exact hsub _ (haft e he hbe)
        · refine hsub _ (hcl k o hk ?_ e he hbe)
          have e2 : (listed.setIfInBounds i true).getD k true = listed.getD k true := by
            simp [Array.getD_eq_getD_getElem?, Array.getElem?_setIfInBounds_ne (Ne.symm e')]
          rw [← e2]; exact hlk
      · rw [hrest]
        have := congrArg List.length hsplit
        simp at this hlen ⊢; omega
end
end Go.Proofs.YtphndngifjgeoaaGreatDoor

/- The by-value logic, part K: operations that may change places; for every program. -/
import Derived.Test.YtphndngifjgeoaaGreatDoorBvJ
set_option linter.unusedVariables false
set_option linter.unusedSimpArgs false
namespace Go.Proofs.YtphndngifjgeoaaGreatDoor
section
variable {P : Program}

theorem pstep_mono {dr : Bool} {o : Oper} {s : St} {K K' : St → Prop} (hk : ∀ s', K s' → K' s') (h : PStep P dr o K s) : PStep P dr o K' s := by
  obtain ⟨hd, hp⟩ := h
  refine ⟨hd, ?_⟩
  cases ho : o.op
  case alloc t => simp only [ho] at hp ⊢; obtain ⟨z, h1, h2, h3, h4⟩ := hp; exact ⟨z, h1, h2, h3, hk _ h4⟩
  case box t x => simp only [ho] at hp ⊢; exact ⟨hp.1, hp.2.1, hk _ hp.2.2⟩
  case store t x y =>
    simp only [ho] at hp ⊢
    obtain ⟨h1, h2, h3, hp⟩ := hp
    refine ⟨h1, h2, h3, ?_⟩
    split
    · rename_i k off hx
      simp only [hx] at hp
      obtain ⟨cs, k1, k2, k3⟩ := hp
      exact ⟨cs, k1, k2, hk _ k3⟩
    · rename_i i z es j c hx
      simp only [hx] at hp
      exact ⟨hp.1, hp.2.1, hp.2.2.1, hp.2.2.2.1, hp.2.2.2.2.1, hk _ hp.2.2.2.2.2⟩
    · rename_i h1 h2
      split at hp
      · exact absurd (by assumption) (h1 _ _)
      · exact absurd (by assumption) (h2 _ _ _ _ _)
      · exact hp
  case buildSlice t n parts =>
    simp only [ho] at hp ⊢
    obtain ⟨e, m, h1, h2, h3, h4, h5, h6, h7, hK⟩ := hp
    exact ⟨e, m, h1, h2, h3, h4, h5, h6, h7, hk _ hK⟩
  case makeSlice t x y =>
    simp only [ho] at hp ⊢
    obtain ⟨e, m, by_, z, k, k', len, cap, h1, h2, h3, h4, h5, h6, h7, h8, h9, h10, h11, h12, h13, h14, h15, hK⟩ := hp
    exact ⟨e, m, by_, z, k, k', len, cap, h1, h2, h3, h4, h5, h6, h7, h8, h9, h10, h11, h12, h13, h14, h15, hk _ hK⟩
  case makeMap t r =>
    cases r with
    | none => simp only [ho] at hp ⊢; obtain ⟨I, h1⟩ := hp; exact ⟨I, hk _ h1⟩
    | some r => simp only [ho] at hp ⊢; obtain ⟨v, hl, hK⟩ := hp; exact ⟨v, hl, hk _ hK⟩
  case mapUpdate t m k x =>
    simp only [ho] at hp ⊢
    obtain ⟨I, p, q, n, h1, h2, h3, h4, h5, h6⟩ := hp
    exact ⟨I, p, q, n, h1, h2, h3, h4, h5, hk _ h6⟩
  case call c =>
    obtain ⟨callee, args, ts⟩ := c
    cases callee
    case value f =>
      simp only [ho] at hp ⊢
      split
      · rename_i hv
        rw [if_pos hv] at hp
        obtain ⟨g, fn, caps, h1, h2, h3, h4, hp⟩ := hp
        exact ⟨g, fn, caps, h1, h2, h3, h4, hp.mono fun v bx n _ hq => hk _ hq⟩
      rename_i hv
      rw [if_neg hv] at hp
      rcases hp with ⟨g, v, h1, h2, hK⟩ | hp
      · exact .inl ⟨g, v, h1, h2, hk _ hK⟩
      obtain ⟨g, fn, h1, h2, h3, h4, h5, hp⟩ := hp
      exact .inr ⟨g, fn, h1, h2, h3, h4, h5, hp.mono fun v n D _ hq => ⟨hq.1, hq.2.1, hk _ hq.2.2⟩⟩
    case builtin b =>
      cases b
      case append =>
        simp only [ho] at hp ⊢
        obtain ⟨x, y, t, h1, h2, hp⟩ := hp
        refine ⟨x, y, t, h1, h2, ?_⟩
        unfold appendP at hp ⊢
        split at hp
        · rename_i i z es i2 z2 es2 e hx hy ht
          split at hp
          · rename_i m by_ hm hb
            obtain ⟨k1, k2, k3, k4, k5, hp⟩ := hp
            refine ⟨k1, k2, k3, k4, k5, ?_⟩
            split at hp
            · rename_i hg; rw [if_pos hg]; exact ⟨hp.1, hp.2.1, hk _ hp.2.2⟩
            · rename_i hg; rw [if_neg hg]; exact ⟨hp.1, hp.2.1, hk _ hp.2.2⟩
          · exact hp.elim
        · exact hp.elim
      all_goals
        simp only [ho] at hp ⊢
        obtain ⟨v, hl, hK⟩ := hp
        exact ⟨v, hl, hk _ hK⟩
    case invoke r m =>
      simp only [ho] at hp ⊢
      obtain ⟨v, hl, hK⟩ := hp
      exact ⟨v, hl, hk _ hK⟩
  all_goals
    simp only [ho] at hp ⊢
    obtain ⟨v, hl, hK⟩ := hp
    exact ⟨v, hl, hk _ hK⟩

/-- A step's outcome is one. -/
theorem pstep_det {dr : Bool} {o : Oper} {s : St} {K : St → Prop} (h : PStep P dr o K s) : ∃ s', PStep P dr o (fun x => x = s') s ∧ K s' := by
  obtain ⟨hd, hp⟩ := h
  suffices hs : ∃ s', (match o.op with
      | .alloc t => ∃ z, tzero P t = some z ∧ z.sized = true ∧ aOk P t z = true ∧ (s.pushBox z.cells).put o.dst (.box s.boxes.length 0) = s'
      | _ => PStep P dr o (fun x => x = s') s) ∧ K s' by
    obtain ⟨s', h1, h2⟩ := hs
    refine ⟨s', ?_, h2⟩
    split at h1
    · rename_i t ho
      exact ⟨hd, by simp only [ho]; exact h1⟩
    · exact h1
  cases ho : o.op
  case alloc t => simp only [ho] at hp ⊢; obtain ⟨z, h1, h2, h3, h4⟩ := hp; exact ⟨_, ⟨z, h1, h2, h3, rfl⟩, h4⟩
  case box t x => simp only [ho] at hp; exact ⟨_, ⟨hd, by simp only [ho]; exact ⟨hp.1, hp.2.1, by first | rfl | trivial⟩⟩, hp.2.2⟩
  case store t x y =>
    simp only [ho] at hp
    obtain ⟨h1, h2, h3, hp⟩ := hp
    split at hp
    · rename_i k off hx
      obtain ⟨cs, k1, k2, k3⟩ := hp
      exact ⟨_, ⟨hd, by simp only [ho]; exact ⟨h1, h2, h3, by simp only [hx]; exact ⟨cs, k1, k2, rfl⟩⟩⟩, k3⟩
    · rename_i i z es j c hx
      exact ⟨_, ⟨hd, by simp only [ho]; exact ⟨h1, h2, h3, by simp only [hx]; exact ⟨hp.1, hp.2.1, hp.2.2.1, hp.2.2.2.1, hp.2.2.2.2.1, by first | rfl | trivial⟩⟩⟩, hp.2.2.2.2.2⟩
    · exact hp.elim
  case buildSlice t n parts =>
    simp only [ho] at hp
    obtain ⟨e, m, h1, h2, h3, h4, h5, h6, h7, hK⟩ := hp
    exact ⟨_, ⟨hd, by simp only [ho]; exact ⟨e, m, h1, h2, h3, h4, h5, h6, h7, rfl⟩⟩, hK⟩
  case makeSlice t x y =>
    simp only [ho] at hp
    obtain ⟨e, m, by_, z, k, k', len, cap, h1, h2, h3, h4, h5, h6, h7, h8, h9, h10, h11, h12, h13, h14, h15, hK⟩ := hp
    exact ⟨_, ⟨hd, by simp only [ho]; exact ⟨e, m, by_, z, k, k', len, cap, h1, h2, h3, h4, h5, h6, h7, h8, h9, h10, h11, h12, h13, h14, h15, rfl⟩⟩, hK⟩
  case makeMap t r =>
    cases r with
    | none => simp only [ho] at hp; obtain ⟨I, h1⟩ := hp; exact ⟨_, ⟨hd, by simp only [ho]; exact ⟨I, rfl⟩⟩, h1⟩
    | some r => simp only [ho] at hp; obtain ⟨v, hl, hK⟩ := hp; exact ⟨_, ⟨hd, by simp only [ho]; exact ⟨v, hl, rfl⟩⟩, hK⟩
  case mapUpdate t m k x =>
    simp only [ho] at hp
    obtain ⟨I, p, q, n, h1, h2, h3, h4, h5, h6⟩ := hp
    exact ⟨_, ⟨hd, by simp only [ho]; exact ⟨I, p, q, n, h1, h2, h3, h4, h5, by first | rfl | trivial⟩⟩, h6⟩
  case call c =>
    obtain ⟨callee, args, ts⟩ := c
    cases callee
    case value f =>
      simp only [ho] at hp
      split at hp
      · rename_i hv
        obtain ⟨g, fn, caps, h1, h2, h3, h4, v, bx, n', hgv, hn, hq⟩ := hp
        exact ⟨_, ⟨hd, by simp only [ho]; rw [if_pos hv]; exact ⟨g, fn, caps, h1, h2, h3, h4, v, bx, n', hgv, hn, rfl⟩⟩, hq⟩
      rename_i hv
      rcases hp with ⟨g, v, h1, h2, hK⟩ | hp
      · exact ⟨_, ⟨hd, by simp only [ho]; rw [if_neg hv]; exact .inl ⟨g, v, h1, h2, rfl⟩⟩, hK⟩
      obtain ⟨g, fn, h1, h2, h3, h4, h5, v, n', D, hgv, hn, hq⟩ := hp
      exact ⟨_, ⟨hd, by simp only [ho]; rw [if_neg hv]; exact .inr ⟨g, fn, h1, h2, h3, h4, h5, v, n', D, hgv, hn, hq.1, hq.2.1, rfl⟩⟩, hq.2.2⟩
    case builtin b =>
      cases b
      case append =>
        simp only [ho] at hp
        obtain ⟨x, y, t, h1, h2, hp⟩ := hp
        unfold appendP at hp
        split at hp
        · rename_i i z es i2 z2 es2 e hx hy ht
          split at hp
          · rename_i m by_ hm hb
            obtain ⟨k1, k2, k3, k4, k5, hp⟩ := hp
            split at hp
            · rename_i hg
              exact ⟨_, ⟨hd, by simp only [ho]; exact ⟨x, y, t, h1, h2, by unfold appendP; simp only [hx, hy, ht, hm, hb]; exact ⟨k1, k2, k3, k4, k5, by rw [if_pos hg]; exact ⟨hp.1, hp.2.1, by first | rfl | trivial⟩⟩⟩⟩, hp.2.2⟩
            · rename_i hg
              exact ⟨_, ⟨hd, by simp only [ho]; exact ⟨x, y, t, h1, h2, by unfold appendP; simp only [hx, hy, ht, hm, hb]; exact ⟨k1, k2, k3, k4, k5, by rw [if_neg hg]; exact ⟨hp.1, hp.2.1, by first | rfl | trivial⟩⟩⟩⟩, hp.2.2⟩
          · exact hp.elim
        · exact hp.elim
      all_goals
        simp only [ho] at hp
        obtain ⟨v, hl, hK⟩ := hp
        exact ⟨_, ⟨hd, by simp only [ho]; exact ⟨v, hl, rfl⟩⟩, hK⟩
    case invoke r m =>
      simp only [ho] at hp
      obtain ⟨v, hl, hK⟩ := hp
      exact ⟨_, ⟨hd, by simp only [ho]; exact ⟨v, hl, rfl⟩⟩, hK⟩
  all_goals
    simp only [ho] at hp
    obtain ⟨v, hl, hK⟩ := hp
    exact ⟨_, ⟨hd, by simp only [ho]; exact ⟨v, hl, rfl⟩⟩, hK⟩

/-- A light step. -/
theorem pstep_light {dr : Bool} {o : Oper} (hc : clsOp o.op = 0) {s : St} {K : St → Prop} : PStep P dr o K s ↔ (∀ d, o.dst = some d → d < s.nt) ∧ ∃ v, light P s o = some v ∧ K (s.put o.dst v) := by
  unfold PStep
  cases ho : o.op <;> rw [ho] at hc <;> try (simp [clsOp] at hc; done)
  case call c =>
    obtain ⟨callee, args, ts⟩ := c
    cases callee
    case value f => simp only [clsOp] at hc; split at hc <;> omega
    case builtin b => cases b <;> first | (simp [clsOp] at hc; done) | exact Iff.rfl
    case invoke r m => exact Iff.rfl
  all_goals exact Iff.rfl

/-- A new name, a new slice's room. -/
def St.bump (s : St) (n : Nat) (t : List (Nat × Nat × Nat)) : St := { s with next := n, tips := t }

theorem bump_put (s : St) (n : Nat) (t : List (Nat × Nat × Nat)) (d : Option Tmp) (u : PV) : (s.put d u).bump n t = (s.bump n t).put d u := by cases d <;> rfl
theorem fresh_bump (s : St) (T : Nat) : s.fresh T = s.bump (s.next + 1) ((s.next, s.next, T) :: s.tips) := rfl
theorem regrown_bump (s : St) (g f T : Nat) : s.regrown g f T = s.bump (s.next + 1) ((s.next, f, T) :: s.tips.filter fun x => x.1 != g) := rfl
theorem after_bump (s : St) (n : Nat) : s.after n [] = s.bump n s.tips := rfl

/-- What a step of the middle kind hangs on. -/
structure Same (ops : Array Oper) (o : Oper) (s s' : St) : Prop where
  slots : ∀ t, t ∈ o.looksAt ops → s'.slots t = s.slots t
  nt : s'.nt = s.nt
  next : s'.next = s.next
  tips : s'.tips = s.tips

/-- A step of the middle kind makes a name, room, and a value: the same wherever what it hangs on is. -/
theorem pstep_mid {ops : Array Oper} {o : Oper} (hc : clsOp o.op = 1) {s : St} {K : St → Prop} (h : PStep P true o K s) :
    ∃ n t v, K ((s.bump n t).put o.dst v) ∧ ∀ s', Same ops o s s' → ∀ K' : St → Prop, K' ((s'.bump n t).put o.dst v) → PStep P true o K' s' := by
  obtain ⟨hd, hp⟩ := h
  have hev : ∀ {s' : St}, Same ops o s s' → ∀ {x : Operand}, x ∈ o.op.operands → s'.ev x = s.ev x := fun hs x hx => ev_congr hs.slots hx
  cases ho : o.op <;> rw [ho] at hc <;> try (simp [clsOp] at hc; done)
  case buildSlice t n parts =>
    simp only [ho] at hp
    obtain ⟨e, m, h1, h2, h3, h4, h5, h6, h7, hK⟩ := hp
    refine ⟨_, _, _, hK, fun s' hs K' hK' => ⟨by rw [hs.nt]; exact hd, ?_⟩⟩
    have he : ∀ x, x ∈ parts.toList → s'.ev x.2 = s.ev x.2 := fun x hx => hev hs (by rw [ho]; simp only [Op.operands]; simpa using ⟨x.1, by simpa using hx⟩)
    simp only [ho]
    have e1 : (parts.toList.map fun x => s'.ev x.2) = (parts.toList.map fun x => s.ev x.2) := List.map_congr_left he
    have e2 : (parts.toList.all fun x => (s'.ev x.2).sized && (s'.ev x.2).closed && (s'.ev x.2).cells.all PV.isCell && (s'.ev x.2).cells.length == m) = true := by
      rw [List.all_eq_true] at h5 ⊢
      intro x hx; rw [he x hx]; exact h5 x hx
    refine ⟨e, m, h1, h2, h3, h4, e2, h6, h7, ?_⟩
    rw [e1, fresh_bump, hs.next, hs.tips]
    exact hK'
  case makeSlice t x y =>
    simp only [ho] at hp
    obtain ⟨e, m, by_, z, k, k', len, cap, h1, h2, h3, h4, h5, h6, h7, h8, h9, h10, h11, h12, h13, h14, h15, hK⟩ := hp
    refine ⟨_, _, _, hK, fun s' hs K' hK' => ⟨by rw [hs.nt]; exact hd, ?_⟩⟩
    have ex := hev hs (x := x) (by rw [ho]; simp [Op.operands])
    have ey := hev hs (x := y) (by rw [ho]; simp [Op.operands])
    simp only [ho]
    refine ⟨e, m, by_, z, k, k', len, cap, h1, h2, h3, h4, by rw [ex]; exact h5, by rw [ey]; exact h6, h7, h8, h9, h10, h11, h12, h13, h14, h15, ?_⟩
    rw [fresh_bump, hs.next, hs.tips]
    exact hK'
  case call c =>
    obtain ⟨callee, args, ts⟩ := c
    cases callee
    case value f =>
      have hv : ¬ heavy f ts = true := fun hv => by simp [clsOp, hv] at hc
      simp only [ho] at hp
      rw [if_neg hv] at hp
      have hef : ∀ {s' : St}, Same ops o s s' → s'.ev f = s.ev f := fun hs => hev hs (x := f) (by rw [ho]; simp [Op.operands, Call.operands])
      have hea : ∀ {s' : St}, Same ops o s s' → ∀ x, x ∈ args.toList → s'.ev x = s.ev x := fun hs x hx => hev hs (by rw [ho]; simp [Op.operands, Call.operands]; right; simpa using hx)
      rcases hp with ⟨g, v, h1, h2, hK⟩ | hp
      · refine ⟨s.next, s.tips, v, hK, fun s' hs K' hK' => ⟨by rw [hs.nt]; exact hd, ?_⟩⟩
        simp only [ho]
        rw [if_neg hv]
        refine .inl ⟨g, v, by rw [hef hs]; exact h1, by rw [List.map_congr_left (hea hs)]; exact h2, ?_⟩
        rw [← hs.next, ← hs.tips] at hK'
        exact hK'
      obtain ⟨g, fn, h1, h2, h3, h4, h5, v, n', D, hgv, hn, hD, hDs, hK⟩ := hp
      have hD0 := hD trivial
      subst hD0
      refine ⟨_, _, v, hK, fun s' hs K' hK' => ⟨by rw [hs.nt]; exact hd, ?_⟩⟩
      have ef := hef hs
      have ea := hea hs
      have e1 : args.toList.map s'.ev = args.toList.map s.ev := List.map_congr_left ea
      have e2 : (args.toList.all fun x => (s'.ev x).closed) = true := by
        rw [List.all_eq_true] at h5 ⊢
        intro x hx; rw [ea x hx]; exact h5 x hx
      simp only [ho]
      rw [if_neg hv]
      refine .inr ⟨g, fn, by rw [ef]; exact h1, h2, h3, h4, e2, v, n', [], by rw [e1, hs.next]; exact hgv, by rw [hs.next]; exact hn, fun _ => rfl, by simp, ?_⟩
      rw [after_bump, hs.tips]
      exact hK'
    case builtin b =>
      cases b <;> try (simp [clsOp] at hc; done)
      simp only [ho] at hp
      obtain ⟨x, y, t, h1, h2, hp⟩ := hp
      have hx' : x ∈ args.toList := by rw [h1]; simp
      have hy' : y ∈ args.toList := by rw [h1]; simp
      have ea : ∀ {s' : St}, Same ops o s s' → ∀ x, x ∈ args.toList → s'.ev x = s.ev x := fun hs x hx => hev hs (by rw [ho]; simp [Op.operands, Call.operands]; simpa using hx)
      unfold appendP at hp
      split at hp
      · rename_i i z es i2 z2 es2 e hx hy ht
        split at hp
        · rename_i m by_ hm hb
          obtain ⟨k1, k2, k3, k4, k5, hp⟩ := hp
          split at hp
          · rename_i hg
            obtain ⟨q1, q2, hK⟩ := hp
            refine ⟨_, _, _, hK, fun s' hs K' hK' => ⟨by rw [hs.nt]; exact hd, ?_⟩⟩
            simp only [ho]
            refine ⟨x, y, t, h1, h2, ?_⟩
            unfold appendP
            rw [ea hs x hx', ea hs y hy']
            simp only [hx, hy, ht, hm, hb]
            refine ⟨k1, k2, k3, k4, k5, ?_⟩
            rw [if_pos hg]
            refine ⟨q1, q2, ?_⟩
            rw [fresh_bump, hs.next, hs.tips]
            exact hK'
          · rename_i hg
            obtain ⟨q1, q2, hK⟩ := hp
            refine ⟨_, _, _, hK, fun s' hs K' hK' => ⟨by rw [hs.nt]; exact hd, ?_⟩⟩
            simp only [ho]
            refine ⟨x, y, t, h1, h2, ?_⟩
            unfold appendP
            rw [ea hs x hx', ea hs y hy']
            simp only [hx, hy, ht, hm, hb]
            refine ⟨k1, k2, k3, k4, k5, ?_⟩
            rw [if_neg hg]
            refine ⟨q1, by rw [hs.tips]; exact q2, ?_⟩
            rw [regrown_bump, hs.next, hs.tips]
            exact hK'
        · exact hp.elim
      · exact hp.elim
    case invoke r m => simp [clsOp] at hc
end
end Go.Proofs.YtphndngifjgeoaaGreatDoor

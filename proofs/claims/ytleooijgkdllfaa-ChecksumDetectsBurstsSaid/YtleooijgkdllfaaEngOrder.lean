/- THE ENGINE, PART 2: the order in which a region's operations come up makes no difference to the symbolic state. -/
import Derived.Test.YtleooijgkdllfaaEngDefs
namespace Go.Eng
open Go.RowKit

/-! ### lists -/

theorem beq_false {a b : Nat} (h : a ≠ b) : Nat.beq a b = false := by
  cases hh : Nat.beq a b with
  | false => rfl
  | true => exact absurd (Nat.eq_of_beq_eq_true hh) h

theorem setM_self (mem : Nat → MRes) (id : Nat) (r : MRes) : setM mem id r id = r := by simp [setM]
theorem setM_ne (mem : Nat → MRes) {id k : Nat} (r : MRes) (h : id ≠ k) : setM mem id r k = mem k := by
  simp only [setM, beq_false (Ne.symm h), cond_false]

theorem setM_comm (mem : Nat → MRes) {i j : Nat} (x y : MRes) (h : i ≠ j) : setM (setM mem i x) j y = setM (setM mem j y) i x := by
  funext k
  by_cases hj : j = k
  · subst hj
    rw [setM_self, setM_ne _ _ h, setM_self]
  · rw [setM_ne _ _ hj]
    by_cases hi : i = k
    · subst hi; rw [setM_self, setM_self]
    · rw [setM_ne _ _ hi, setM_ne _ _ hi, setM_ne _ _ hj]

theorem applyU_ne {us : List (Nat × MRes)} {id : Nat} (h : ∀ u ∈ us, u.1 ≠ id) : ∀ mem : Nat → MRes, applyU mem us id = mem id := by
  induction us with
  | nil => intro mem; rfl
  | cons u us ih =>
    intro mem
    simp only [applyU]
    rw [ih (fun x hx => h x (List.mem_cons_of_mem _ hx))]
    exact setM_ne _ _ (h u (List.mem_cons_self ..))

theorem applyU_set {us : List (Nat × MRes)} {id : Nat} (r : MRes) (h : ∀ u ∈ us, u.1 ≠ id) : ∀ mem : Nat → MRes, applyU (setM mem id r) us = setM (applyU mem us) id r := by
  induction us with
  | nil => intro mem; rfl
  | cons u us ih =>
    intro mem
    simp only [applyU]
    rw [← ih (fun x hx => h x (List.mem_cons_of_mem _ hx)), setM_comm _ _ _ (fun e => h u (List.mem_cons_self ..) e.symm)]

theorem applyU_comm {us vs : List (Nat × MRes)} (h : ∀ u ∈ us, ∀ v ∈ vs, u.1 ≠ v.1) : ∀ mem : Nat → MRes, applyU (applyU mem us) vs = applyU (applyU mem vs) us := by
  induction us with
  | nil => intro mem; rfl
  | cons u us ih =>
    intro mem
    simp only [applyU]
    rw [ih (fun x hx => h x (List.mem_cons_of_mem _ hx)), applyU_set _ (fun v hv e => h u (List.mem_cons_self ..) v hv e.symm)]

theorem putTmp_ne {tmps : Nat → TV} {dst : Option Nat} {v : TV} {t : Nat} (h : dst ≠ some t) : putTmp tmps dst v t = tmps t := by
  cases dst with
  | none => rfl
  | some d =>
    simp only [putTmp, beq_false (show t ≠ d from fun e => h (by rw [e])), cond_false]

theorem putTmp_self (tmps : Nat → TV) (t : Nat) (v : TV) : putTmp tmps (some t) v t = v := by simp [putTmp]

theorem putTmp_comm {tmps : Nat → TV} {d e : Option Nat} (v u : TV) (h : ∀ x, d = some x → e ≠ some x) : putTmp (putTmp tmps d v) e u = putTmp (putTmp tmps e u) d v := by
  cases d with
  | none => rfl
  | some x =>
    cases e with
    | none => rfl
    | some y =>
      have hxy : x ≠ y := fun e => h x rfl (by rw [e])
      funext t
      by_cases hy : y = t
      · subst hy
        rw [putTmp_self, putTmp_ne (by simpa using hxy), putTmp_self]
      · rw [putTmp_ne (by simpa using hy)]
        by_cases hx : x = t
        · subst hx; rw [putTmp_self, putTmp_self]
        · rw [putTmp_ne (by simpa using hx), putTmp_ne (by simpa using hx), putTmp_ne (by simpa using hy)]

/-! ### what an operation looks at -/

theorem rdOp_congr {tmps tmps' : Nat → TV} {gs : List (Nat × Bool)} {x : Operand} (h : ∀ t, x = .tmp t → tmps t = tmps' t) : rdOp tmps gs x = rdOp tmps' gs x := by
  cases x with
  | tmp t => simp only [rdOp, h t rfl]
  | _ => rfl

theorem mapOps_congr {ρ ρ' : Operand → Option PV} : ∀ {l : List Operand}, (∀ x ∈ l, ρ x = ρ' x) → mapOps ρ l = mapOps ρ' l
  | [], _ => rfl
  | x :: l, h => by simp only [mapOps, h x (List.mem_cons_self ..), mapOps_congr fun y hy => h y (List.mem_cons_of_mem _ hy)]

theorem fvParts_congr {ρ ρ' : Operand → Option PV} : ∀ {l : List (Nat × Operand)}, (∀ x ∈ l, ρ x.2 = ρ' x.2) → fvParts ρ l = fvParts ρ' l
  | [], _ => rfl
  | (i, x) :: l, h => by
    have h1 := h (i, x) (List.mem_cons_self ..)
    simp only at h1
    simp only [fvParts, h1, fvParts_congr fun y hy => h y (List.mem_cons_of_mem _ hy)]

theorem plan_congr {o : Oper} {ρ ρ' : Operand → Option PV} (h : ∀ x ∈ o.op.operands, ρ x = ρ' x) : plan o ρ = plan o ρ' := by
  obtain ⟨dst, op, type, pos, after, guard⟩ := o
  cases op <;> simp only [plan] <;> try rfl
  case load T x => rw [h x (by simp [Op.operands])]
  case store T x v => rw [h x (by simp [Op.operands])]
  case indexAddr T x i => rw [h x (by simp [Op.operands])]
  case convert s d x => rw [h x (by simp [Op.operands])]
  case call c =>
    have hm : mapOps ρ c.args.toList = mapOps ρ' c.args.toList := mapOps_congr fun x hx => h x (by
      simp only [Op.operands, Call.operands]
      exact Array.mem_append.2 (.inr (by simpa using hx)))
    rw [hm]
    cases hcal : c.callee with
    | value fx =>
      have hf : ρ fx = ρ' fx := h fx (by
        simp only [Op.operands, Call.operands, hcal]
        exact Array.mem_append.2 (.inl (by simp)))
      have hcf : calleeF ρ fx = calleeF ρ' fx := by cases fx <;> simp only [calleeF, hf]
      simp only [callArgs, hcf]
    | builtin b => cases b <;> rfl
    | invoke r m => rfl

theorem core_congr {P : Program} {ctrs : FuncId → Option Contract} {o : Oper} {ρ ρ' : List (Nat × Bool) → Operand → Option PV} {gs : List (Nat × Bool)} {self : Nat} {ids : List Nat} {cont : List Res}
    (h : ∀ gs x, x ∈ o.op.operands → ρ gs x = ρ' gs x) : core P ctrs o ρ gs self ids cont = core P ctrs o ρ' gs self ids cont := by
  obtain ⟨dst, op, type, pos, after, guard⟩ := o
  cases op <;> simp only [core] <;> try rfl
  case move x => rw [h _ x (by simp [Op.operands])]
  case assign x => rw [h _ x (by simp [Op.operands])]
  case buildSlice T n parts =>
    have hp : fvParts (ρ gs) parts.toList = fvParts (ρ' gs) parts.toList := fvParts_congr fun x hx => h _ x.2 (by
      simp only [Op.operands]
      simp
      exact ⟨x.1, by simpa using hx⟩)
    rw [hp]
  case makeSlice T x y => rw [h _ x (by simp [Op.operands]), h _ y (by simp [Op.operands])]
  case pick c a b =>
    rw [h _ c (by simp [Op.operands])]
    cases c with
    | tmp t => simp only [h _ a (by simp [Op.operands]), h _ b (by simp [Op.operands])]
    | _ => rfl
  case box T x => rw [h _ x (by simp [Op.operands])]
  case build T parts =>
    have hp : fvParts (ρ gs) parts.toList = fvParts (ρ' gs) parts.toList := fvParts_congr fun x hx => h _ x.2 (by
      simp only [Op.operands]
      simp
      exact ⟨x.1, by simpa using hx⟩)
    rw [hp]
  case load T x => rw [h _ x (by simp [Op.operands])]
  case store T x v => rw [h _ x (by simp [Op.operands]), h _ v (by simp [Op.operands])]
  case nilCheck x => rw [h _ x (by simp [Op.operands])]
  case binOp op T x y T' => rw [h _ x (by simp [Op.operands]), h _ y (by simp [Op.operands])]
  case unOp op T x => rw [h _ x (by simp [Op.operands])]
  case convert s d x => rw [h _ x (by simp [Op.operands])]
  case fieldAddr T x f => rw [h _ x (by simp [Op.operands])]
  case field T x f => rw [h _ x (by simp [Op.operands])]
  case indexAddr T x i => rw [h _ x (by simp [Op.operands]), h _ i (by simp [Op.operands])]
  case index T x i => rw [h _ x (by simp [Op.operands]), h _ i (by simp [Op.operands])]
  case extract x k => rw [h _ x (by simp [Op.operands])]
  case slice T x lo hi mx =>
    have hb : hi.bind (ρ gs) = hi.bind (ρ' gs) := by
      cases hi with
      | none => rfl
      | some y => exact h gs y (by simp [Op.operands])
    rw [h _ x (by simp [Op.operands]), hb]
  case makeFunc fn first captured =>
    have hm : mapOps (ρ gs) captured.toList = mapOps (ρ' gs) captured.toList := mapOps_congr fun x hx => h _ x (by
      simp only [Op.operands]
      exact Array.mem_append.2 (.inr (by simpa using hx)))
    rw [hm]
  case call c =>
    have hm : mapOps (ρ gs) c.args.toList = mapOps (ρ' gs) c.args.toList := mapOps_congr fun x hx => h _ x (by
      simp only [Op.operands, Call.operands]
      exact Array.mem_append.2 (.inr (by simpa using hx)))
    rw [hm]
    cases hcal : c.callee with
    | value fx =>
      have hf : ρ gs fx = ρ' gs fx := h _ fx (by
        simp only [Op.operands, Call.operands, hcal]
        exact Array.mem_append.2 (.inl (by simp)))
      have hcf : calleeF (ρ gs) fx = calleeF (ρ' gs) fx := by cases fx <;> simp only [calleeF, hf]
      simp only [hcf]
    | builtin b => cases b <;> rfl
    | invoke r m => rfl

theorem contOf_congr {gs : List (Nat × Bool)} {mem mem' : Nat → MRes} : ∀ {l : List Nat}, (∀ id ∈ l, mem id = mem' id) → contOf gs mem l = contOf gs mem' l
  | [], _ => rfl
  | id :: l, h => by simp only [contOf, h id (List.mem_cons_self ..), contOf_congr fun y hy => h y (List.mem_cons_of_mem _ hy)]

theorem scomp_congr {P : Program} {ctrs : FuncId → Option Contract} {ops : Array Oper} {o : Oper} {self : Nat} {fp : List Nat} {tmps tmps' : Nat → TV} {mem mem' : Nat → MRes}
    (ht : ∀ t ∈ o.looksAt ops, tmps t = tmps' t) (hm : ∀ id ∈ fp, mem id = mem' id) : scomp P ctrs ops o self fp tmps mem = scomp P ctrs ops o self fp tmps' mem' := by
  have hx : ∀ gs x, x ∈ o.op.operands → rdOp tmps gs x = rdOp tmps' gs x := fun gs x hx => rdOp_congr fun t e => ht t (by
    subst e
    exact List.mem_append_left _ (List.mem_filterMap.2 ⟨.tmp t, by simpa using hx, rfl⟩))
  unfold scomp
  split
  · rfl
  · rw [plan_congr (fun x h => hx [] x h), contOf_congr hm]
    simp only [core_congr hx]
  · rename_i d want hg
    have hd : tmps d = tmps' d := ht d (by
      refine List.mem_append_right _ ?_
      unfold guardOf at hg
      split at hg
      · simp at hg
      · rename_i j w hgd
        split at hg
        · rename_i d' hj
          simp at hg
          rw [hgd]
          simp [hj, hg.1]
        · simp at hg)
    have hb : guardBool tmps d = guardBool tmps' d := by simp only [guardBool, hd]
    rw [hb, plan_congr (fun x h => hx [(d, want)] x h), contOf_congr hm]
    simp only [core_congr hx]

theorem wrOk_writes {o : Oper} {l : List MRes} (h : wrOk o l = true) : writes o = true := by
  unfold wrOk at h
  simp only [Bool.and_eq_true] at h
  exact h.1
theorem wrOk_sure {o : Oper} {l : List MRes} (h : wrOk o l = true) : ∀ m ∈ l, m = .lost ∨ ∃ r, m = .val r := by
  unfold wrOk at h
  simp only [Bool.and_eq_true, List.all_eq_true] at h
  intro m hm
  have := h.2 m hm
  unfold MRes.sure at this
  split at this
  · exact .inr ⟨_, rfl⟩
  · exact .inl rfl
  · cases this

/-- An operation's changes of memory lie at its own new block, or at what it touches, if it writes. -/
theorem scomp_keys {P : Program} {ctrs : FuncId → Option Contract} {ops : Array Oper} {o : Oper} {self : Nat} {fp : List Nat} {tmps : Nat → TV} {mem : Nat → MRes} {ps : List Prop} {tv : TV} {us : List (Nat × MRes)}
    (h : scomp P ctrs ops o self fp tmps mem = some (ps, tv, us)) : ∀ u ∈ us, u.1 = self ∨ (writes o = true ∧ u.1 ∈ fp) := by
  intro u hu
  unfold scomp at h
  split at h
  · cases h
  · split at h
    · split at h
      · split at h
        · split at h
          · simp at h; obtain ⟨_, _, rfl⟩ := h; cases hu
          · simp at h; obtain ⟨_, _, rfl⟩ := h; simp at hu; exact .inl (by rw [hu])
          · split at h
            · rename_i hw
              simp at h; obtain ⟨_, _, rfl⟩ := h
              exact .inr ⟨wrOk_writes hw, (List.of_mem_zip (a := u.1) (b := u.2) hu).1⟩
            · cases h
          · split at h
            · rename_i hw
              simp at h; obtain ⟨_, _, rfl⟩ := h
              rcases List.mem_append.1 hu with hu | hu
              · exact .inr ⟨wrOk_writes hw, (List.of_mem_zip (a := u.1) (b := u.2) hu).1⟩
              · simp at hu; exact .inl (by rw [hu])
            · cases h
        · cases h
      · cases h
    · cases h
  · split at h
    · cases h
    · split at h
      · cases h
      · split at h
        · split at h
          · split at h
            · split at h
              · simp at h; obtain ⟨_, _, rfl⟩ := h; cases hu
              · simp at h; obtain ⟨_, _, rfl⟩ := h; simp at hu; exact .inl (by rw [hu])
              · cases h
            · cases h
          · cases h
        · cases h

/-! ### two operations that are apart -/

theorem disj_spec {a b : List Nat} (h : disj a b = true) : ∀ x ∈ a, x ∉ b := by
  intro x hx hb
  have := List.all_eq_true.1 h x hx
  simp at this
  exact this hb

/-- What is asked of two operations, numbers i, j. -/
structure Apart (ops : Array Oper) (fps : List (List Nat)) (base i j : Nat) (x y : Oper) : Prop where
  tmp : x.apart ops y = true
  mem : (∀ id ∈ fps.getD i [], id ∉ fps.getD j []) ∨ (writes x = false ∧ writes y = false)
  nij : base + j ∉ fps.getD i []
  nji : base + i ∉ fps.getD j []
  ne : i ≠ j

theorem sstep_spec {P : Program} {ctrs : FuncId → Option Contract} {ops : Array Oper} {base i : Nat} {fp : List Nat} {σ σ' : St} {ps : List Prop} {o : Oper} (ho : ops[i]? = some o)
    (h : sstep P ctrs ops base i fp σ = some (ps, σ')) : ∃ tv us, scomp P ctrs ops o (base + i) fp σ.tmps σ.mem = some (ps, tv, us) ∧ (∀ d, o.dst = some d → d < σ.sz) ∧ σ' = { sz := σ.sz, tmps := putTmp σ.tmps o.dst tv, next := σ.next, mem := applyU σ.mem us } := by
  unfold sstep at h
  simp only [ho] at h
  split at h
  · cases h
  · rename_i hd
    split at h
    · rename_i ps' tv us hc
      simp at h
      obtain ⟨rfl, rfl⟩ := h
      refine ⟨tv, us, hc, fun d e => ?_, rfl⟩
      rw [e] at hd
      simpa using hd
    · cases h

theorem sstep_mk {P : Program} {ctrs : FuncId → Option Contract} {ops : Array Oper} {base i : Nat} {fp : List Nat} {σ : St} {ps : List Prop} {o : Oper} {tv : TV} {us : List (Nat × MRes)} (ho : ops[i]? = some o) (hd : ∀ d, o.dst = some d → d < σ.sz)
    (h : scomp P ctrs ops o (base + i) fp σ.tmps σ.mem = some (ps, tv, us)) : sstep P ctrs ops base i fp σ = some (ps, { sz := σ.sz, tmps := putTmp σ.tmps o.dst tv, next := σ.next, mem := applyU σ.mem us }) := by
  unfold sstep
  have h1 : (o.dst.all fun d => Nat.blt d σ.sz) = true := by
    cases hd' : o.dst with
    | none => rfl
    | some d => simpa using hd d hd'
  simp only [ho, h, h1, Bool.not_true, Bool.false_eq_true, if_false]

theorem sstep_comm {P : Program} {ctrs : FuncId → Option Contract} {ops : Array Oper} {fps : List (List Nat)} {base i j : Nat} {x y : Oper} (hi : ops[i]? = some x) (hj : ops[j]? = some y)
    (hap : Apart ops fps base i j x y) {σ σ₁ σ₂ : St} {p q : List Prop} (h1 : sstep P ctrs ops base i (fps.getD i []) σ = some (p, σ₁)) (h2 : sstep P ctrs ops base j (fps.getD j []) σ₁ = some (q, σ₂)) :
    ∃ σ₁', sstep P ctrs ops base j (fps.getD j []) σ = some (q, σ₁') ∧ sstep P ctrs ops base i (fps.getD i []) σ₁' = some (p, σ₂) := by
  obtain ⟨tv, us, hc1, d1, rfl⟩ := sstep_spec hi h1
  obtain ⟨tu, vs, hc2, d2, rfl⟩ := sstep_spec hj h2
  obtain ⟨a1, a2, a3⟩ := Oper.apart_spec hap.tmp
  have k1 := scomp_keys hc1
  have k2 := scomp_keys hc2
  have e2 : scomp P ctrs ops y (base + j) (fps.getD j []) σ.tmps σ.mem = some (q, tu, vs) := by
    rw [← hc2]
    refine scomp_congr (fun t ht => (putTmp_ne fun e => a1 t e ht).symm) fun id hid => (applyU_ne (fun u hu e => ?_) _).symm
    rcases k1 u hu with hs | ⟨hw, hf⟩
    · exact hap.nji (by rw [← hs, e]; exact hid)
    · rcases hap.mem with hm | hm
      · exact hm u.1 hf (by rw [e]; exact hid)
      · rw [hm.1] at hw; cases hw
  refine ⟨_, sstep_mk hj d2 e2, ?_⟩
  have e1 : scomp P ctrs ops x (base + i) (fps.getD i []) (putTmp σ.tmps y.dst tu) (applyU σ.mem vs) = some (p, tv, us) := by
    rw [← hc1]
    refine scomp_congr (fun t ht => putTmp_ne fun e => a3 t e ht) fun id hid => applyU_ne (fun u hu e => ?_) _
    rcases k2 u hu with hs | ⟨hw, hf⟩
    · exact hap.nij (by rw [← hs, e]; exact hid)
    · rcases hap.mem with hm | hm
      · exact hm id hid (by rw [← e]; exact hf)
      · rw [hm.2] at hw; cases hw
  rw [sstep_mk (σ := { sz := σ.sz, tmps := putTmp σ.tmps y.dst tu, next := σ.next, mem := applyU σ.mem vs }) hi d1 e1]
  simp only [Option.some.injEq, Prod.mk.injEq, true_and, St.mk.injEq]
  refine ⟨(putTmp_comm _ _ a2).symm, (applyU_comm (fun u hu v hv e => ?_) _).symm⟩
  rcases k1 u hu with hs | ⟨hw, hf⟩
  · rcases k2 v hv with hs' | ⟨hw', hf'⟩
    · exact hap.ne (by omega)
    · exact hap.nji (by rw [← hs, e]; exact hf')
  · rcases k2 v hv with hs' | ⟨hw', hf'⟩
    · exact hap.nij (by rw [← hs', ← e]; exact hf)
    · rcases hap.mem with hm | hm
      · exact hm u.1 hf (by rw [e]; exact hf')
      · rw [hm.1] at hw; cases hw

/-! ### whatever order -/

section
variable (P : Program) (ctrs : FuncId → Option Contract) (ops : Array Oper) (fps : List (List Nat)) (base : Nat)

def Goes (i : Nat) (σ σ' : St) : Prop := ∃ ps, sstep P ctrs ops base i (fps.getD i []) σ = some (ps, σ') ∧ Conj ps

/-- Whatever order is picked from here on, the state 'T' is reached. -/
def SAny : Nat → Array Bool → St → St → Prop
  | 0, listed, σ, T => Region.ready .any ops listed = [] ∧ σ = T
  | fuel + 1, listed, σ, T => (Region.ready .any ops listed = [] → σ = T) ∧
    ∀ i ∈ Region.ready .any ops listed, ∃ σ', Goes P ctrs ops fps base i σ σ' ∧ SAny fuel (listed.setIfInBounds i true) σ' T
end

section
variable {P : Program} {ctrs : FuncId → Option Contract} {ops : Array Oper} {fps : List (List Nat)} {base : Nat}

theorem Goes.det {i : Nat} {σ σ₁ σ₂ : St} (h1 : Goes P ctrs ops fps base i σ σ₁) (h2 : Goes P ctrs ops fps base i σ σ₂) : σ₁ = σ₂ := by
  obtain ⟨p, e1, _⟩ := h1
  obtain ⟨q, e2, _⟩ := h2
  rw [e1] at e2
  simp at e2
  exact e2.2

/-- The operation waits for 'i', itself or through another one. -/
def Waits (ops : Array Oper) (i : Nat) (o : Oper) : Prop := ∃ e ∈ o.after, Region.binds .any e = true ∧ (e.on = i ∨ waitsFor ops i e.on = true)
theorem waitsFor_spec {i l : Nat} (h : waitsFor ops i l = true) : ∃ z, ops[l]? = some z ∧ ∃ e ∈ z.after, Region.binds .any e = true ∧ e.on = i := by
  unfold waitsFor at h
  split at h
  · rename_i z hz
    rw [Array.any_eq_true'] at h
    obtain ⟨e, he, h4⟩ := h
    simp at h4
    exact ⟨z, hz, e, he, h4.1, h4.2⟩
  · cases h

theorem SAny_first {i : Nat} {oi : Oper} (hi : ops[i]? = some oi) :
    ∀ (fuel : Nat) (listed : Array Bool) (σ σ' T : St),
      (∀ j oj, ops[j]? = some oj → j ≠ i → listed.getD j true = false → ¬ Waits ops i oj → Apart ops fps base i j oi oj) →
      (∀ l, waitsFor ops i l = true → listed.getD l true = false) →
      i ∈ Region.ready .any ops listed → Goes P ctrs ops fps base i σ σ' →
      SAny P ctrs ops fps base fuel (listed.setIfInBounds i true) σ' T → SAny P ctrs ops fps base (fuel + 1) listed σ T := by
  intro fuel
  induction fuel with
  | zero =>
    intro listed σ σ' T _ _ hr hy H
    refine ⟨fun h => (by rw [h] at hr; cases hr), fun j hj => ?_⟩
    by_cases hji : j = i
    · subst hji; exact ⟨σ', hy, H⟩
    · have := ready_mono hj hji
      rw [H.1] at this
      cases this
  | succ fuel ih =>
    intro listed σ σ' T hfree hwait hr hy H
    refine ⟨fun h => (by rw [h] at hr; cases hr), fun j hj => ?_⟩
    by_cases hji : j = i
    · subst hji; exact ⟨σ', hy, H⟩
    · obtain ⟨σ₂, hg2, H2⟩ := H.2 j (ready_mono hj hji)
      obtain ⟨hjun, oj, hoj, hall⟩ := mem_ready.1 hj
      have hback : ∀ e ∈ oj.after, Region.binds .any e = true → listed.getD e.on true = false → False := fun e he hb h0 => by
        have h1 := hall e he hb
        rcases Nat.lt_or_ge e.on listed.size with h' | h'
        · simp [h'] at h0 h1; rw [h0] at h1; cases h1
        · simp [Array.getElem?_eq_none h'] at h1
      have hnot : ¬ Waits ops i oj := fun ⟨e, he, hb, h⟩ => by
        rcases h with heq | hw
        · have h0 := (mem_ready.1 hr).1
          rw [← heq] at h0
          exact hback e he hb h0
        · exact hback e he hb (hwait _ hw)
      have hap := hfree j oj hoj hji hjun hnot
      obtain ⟨p, e1, hp⟩ := hy
      obtain ⟨q, e2, hq⟩ := hg2
      obtain ⟨σ₁', e3, e4⟩ := sstep_comm hi hoj hap e1 e2
      have hfree' : ∀ k ok, ops[k]? = some ok → k ≠ i → (listed.setIfInBounds j true).getD k true = false →
          ¬ Waits ops i ok → Apart ops fps base i k oi ok := fun k ok hk hki hun hno => by
        refine hfree k ok hk hki ?_ hno
        by_cases hjk : j = k
        · subst hjk; exact hjun
        · rw [getD_set_ne true hjk] at hun; exact hun
      have hwait' : ∀ l, waitsFor ops i l = true → (listed.setIfInBounds j true).getD l true = false := fun l hl => by
        by_cases hjl : j = l
        · subst hjl
          obtain ⟨z, hz, e, he, hb, heq⟩ := waitsFor_spec hl
          rw [hoj] at hz
          cases hz
          exact absurd ⟨e, he, hb, .inl heq⟩ hnot
        · rw [getD_set_ne true hjl]; exact hwait l hl
      refine ⟨σ₁', ⟨q, e3, hq⟩, ih (listed.setIfInBounds j true) σ₁' σ₂ T hfree' hwait' (ready_mono hr (Ne.symm hji)) ⟨p, e4, hp⟩ ?_⟩
      rw [Array.setIfInBounds_comm _ _ hji]
      exact H2

theorem Conj_append : ∀ {p q : List Prop}, Conj (p ++ q) ↔ Conj p ∧ Conj q
  | [], q => by simp [Conj]
  | x :: p, q => by simp [Conj, Conj_append (p := p), and_assoc]

theorem readyAt_spec {k : Nat} {listed : Array Bool} (hk : k < ops.size) (hs : listed.size = ops.size) (hl : ∀ i, i < ops.size → listed.getD i true = decide (i < k)) (h : readyAt ops k = true) :
    k ∈ Region.ready .any ops listed := by
  refine mem_ready.2 ⟨by rw [hl k hk]; simp, ?_⟩
  unfold readyAt at h
  split at h
  · rename_i o ho
    refine ⟨o, ho, fun e he hb => ?_⟩
    have h2 := (Array.all_eq_true'.1 h) e he
    simp [hb] at h2
    have h3 := hl e.on (by omega)
    have h4 : e.on < listed.size := by omega
    simp [h4] at h3 ⊢
    rw [h3]; simpa using h2
  · cases h

theorem freeAt_spec {k : Nat} {listed : Array Bool} {x : Oper} (hl : ∀ i, i < ops.size → listed.getD i true = decide (i < k)) (hx : ops[k]? = some x) (h : freeAt ops fps base k = true) :
    ∀ j oj, ops[j]? = some oj → j ≠ k → listed.getD j true = false → ¬ Waits ops k oj → Apart ops fps base k j x oj := by
  intro j y hy hne hun hno
  have hj : j < ops.size := (Array.getElem?_eq_some_iff.1 hy).1
  have hjk : ¬ j < k := by
    intro hlt
    rw [hl j hj] at hun
    simp [hlt] at hun
  have h1 := List.all_eq_true.1 h j (List.mem_range.2 hj)
  have h2 : ¬ j ≤ k := by omega
  simp only [hx, hy, h2, decide_false, Bool.false_or, Bool.or_eq_true, Bool.and_eq_true] at h1
  rcases h1 with h1 | ⟨h1, h3⟩
  · rw [Array.any_eq_true'] at h1
    obtain ⟨e, he, h4⟩ := h1
    simp at h4
    exact absurd ⟨e, he, h4.1, h4.2⟩ hno
  · unfold memApart at h3
    simp only [hx, hy, Option.map_some, Option.getD_some, Bool.and_eq_true, Bool.or_eq_true, Bool.not_eq_true'] at h3
    obtain ⟨⟨h4, h5⟩, h6⟩ := h3
    refine ⟨h1, h4.imp disj_spec id, by simpa using h5, by simpa using h6, Ne.symm hne⟩

theorem wait_late {k : Nat} {listed : Array Bool} (hl : ∀ i, i < ops.size → listed.getD i true = decide (i < k)) (hok : ∀ i, i < ops.size → readyAt ops i = true) :
    ∀ l, waitsFor ops k l = true → listed.getD l true = false := by
  intro l h
  obtain ⟨z, hz, e, he, hb, heq⟩ := waitsFor_spec h
  have hlt : l < ops.size := (Array.getElem?_eq_some_iff.1 hz).1
  have hr := hok l hlt
  unfold readyAt at hr
  rw [hz] at hr
  have h2 := (Array.all_eq_true'.1 hr) e he
  simp [hb] at h2
  rw [hl l hlt]
  simp
  omega

theorem SAny_lex : ∀ (m k : Nat) (listed : Array Bool) (σ T : St) (ps : List Prop) (l : List (List Nat)), listed.size = ops.size → (∀ i, i < ops.size → listed.getD i true = decide (i < k)) → k + m = ops.size →
    srun P ctrs ops base m k σ = some (ps, l, T) → fps.drop k = l → Conj ps → (∀ i, i < ops.size → readyAt ops i = true ∧ freeAt ops fps base i = true) →
    SAny P ctrs ops fps base m listed σ T := by
  intro m
  induction m with
  | zero =>
    intro k listed σ T ps l hs hl hkm hr hf hc hok
    simp only [srun, Option.some.injEq, Prod.mk.injEq] at hr
    refine ⟨?_, hr.2.2⟩
    cases hrd : Region.ready .any ops listed with
    | nil => rfl
    | cons i t =>
      exfalso
      obtain ⟨h1, o, ho, _⟩ := mem_ready.1 (show i ∈ Region.ready .any ops listed by rw [hrd]; exact List.mem_cons_self ..)
      have hi : i < ops.size := (Array.getElem?_eq_some_iff.1 ho).1
      rw [hl i hi] at h1
      simp at h1
      omega
  | succ m ih =>
    intro k listed σ T ps l hs hl hkm hr hf hc hok
    have hk : k < ops.size := by omega
    simp only [srun] at hr
    split at hr
    · cases hr
    · rename_i p σ' hst
      split at hr
      · rename_i q fps' σ'' hrest
        simp only [Option.some.injEq, Prod.mk.injEq] at hr
        obtain ⟨rfl, rfl, rfl⟩ := hr
        obtain ⟨hp, hq⟩ := Conj_append.1 hc
        have hfk : fps.getD k [] = fpOf ops k σ := by
          have := congrArg (fun l => l.getD 0 []) hf
          simpa [List.getD] using this
        have hfd : fps.drop (k + 1) = fps' := by
          have := congrArg (fun l => l.drop 1) hf
          simpa [Nat.add_comm] using this
        obtain ⟨hrd, hfr⟩ := hok k hk
        refine SAny_first (Array.getElem?_eq_getElem hk) m listed σ σ' σ'' (freeAt_spec hl (Array.getElem?_eq_getElem hk) hfr) (wait_late hl fun i hi => (hok i hi).1) (readyAt_spec hk hs hl hrd) ⟨p, by rw [hfk]; exact hst, hp⟩ ?_
        refine ih (k + 1) _ σ' σ'' q fps' (by simpa using hs) (fun i hi => ?_) (by omega) hrest hfd hq hok
        by_cases hik : k = i
        · subst hik
          have : k < listed.size := by omega
          simp [this]
        · rw [getD_set_ne true hik, hl i hi]
          simp
          omega
      · cases hr

/-- The check on a region's order, and the run in the text's order: so whatever order is picked. -/
theorem SAny_of_run {σ T : St} {ps : List Prop} (hr : srun P ctrs ops base ops.size 0 σ = some (ps, fps, T)) (hc : Conj ps) (hok : orderOk ops fps base = true) :
    SAny P ctrs ops fps base ops.size (Array.replicate ops.size false) σ T := by
  refine SAny_lex ops.size 0 _ σ T ps fps (by simp) (fun i hi => ?_) (by omega) hr (by simp) hc (fun i hi => ?_)
  · simp [hi]
  · have := List.all_eq_true.1 hok i (List.mem_range.2 hi)
    simpa using this

end
end Go.Eng

/- THE ENGINE, PART 4: each operation does what the executor says. -/
import Derived.Test.YtleooijgkdllfaaEngSem
namespace Go.Eng
open Go.RowKit

/-- The guards hold in the frame. -/
def Holds (a : Act) (gs : List (Nat × Bool)) : Prop := ∀ g ∈ gs, a.tmps.getD g.1 undef = .bool g.2

theorem ofVal_rel (E : Env) {v : Value} (h : v.oneCell' = true) : CR E (ofVal v) v := by
  cases v <;> first | rfl | exact ⟨rfl, h⟩
theorem ofVal_fits (mem : Nat → MRes) (v : Value) : (ofVal v).fits mem := by cases v <;> trivial
theorem map_ofVal_rel (E : Env) {l : List Value} (h : ∀ v ∈ l, v.oneCell' = true) : CsR E (l.map ofVal) l :=
  ⟨by simp, fun j c hj => by
    rw [List.getElem?_map] at hj
    cases hl : l[j]? with
    | none => rw [hl] at hj; cases hj
    | some v =>
      rw [hl] at hj
      simp at hj; subst hj
      exact ⟨v, rfl, ofVal_rel E (h v (List.mem_of_getElem? hl))⟩⟩
theorem map_ofVal_fits (mem : Nat → MRes) (l : List Value) : ∀ c ∈ l.map ofVal, c.fits mem := fun c hc => by
  obtain ⟨v, _, rfl⟩ := List.mem_map.1 hc
  exact ofVal_fits mem v

theorem ofConst_rel (E : Env) (mem : Nat → MRes) {v : Value} (h : constOk v = true) : PR E (ofConst v) v ∧ Fits mem (ofConst v) := by
  have key : v.oneCell' = true → PR E (.fv (.one (ofVal v))) v ∧ Fits mem (.fv (.one (ofVal v))) := fun h1 => ⟨ofVal_rel E h1, fun c hc => by simp only [PV.cells, FV.cells, List.mem_singleton] at hc; subst hc; exact ofVal_fits mem _⟩
  cases v with
  | agg cs =>
    refine ⟨⟨cs.toList, by simp, map_ofVal_rel E fun v hv => Array.all_eq_true'.1 h v (by simpa using hv)⟩, map_ofVal_fits mem _⟩
  | tuple cs => cases h
  | _ => exact key rfl

theorem rdOp_sound {we : World} {E : Env} {σ : St} {a : Act} {w : World} (h : RelE we E σ a w) {gs : List (Nat × Bool)} (hg : Holds a gs) {x : Operand} {v : PV} (hx : rdOp σ.tmps gs x = some v) : PR E v (a.eval x) ∧ Fits σ.mem v := by
  cases x with
  | tmp t =>
    have ht := h.tmp t
    have hev : a.eval (.tmp t) = a.tmps.getD t undef := by simp [Act.eval]
    simp only [rdOp] at hx
    split at hx
    · rename_i u htv
      simp at hx; subst hx
      rw [htv] at ht
      rw [hev]; exact ht
    · rename_i gt want u htv
      split at hx
      · rename_i hany
        simp at hx; subst hx
        rw [htv] at ht
        rw [hev]
        refine ht.1 ?_
        obtain ⟨g, hgm, hge⟩ := List.any_eq_true.1 hany
        simp at hge
        have := hg g hgm
        rw [hge.1, hge.2] at this
        exact this
      · cases hx
    · cases hx
  | const c =>
    simp only [rdOp] at hx
    split at hx
    · rename_i hk
      simp at hx; subst hx
      exact ofConst_rel E σ.mem hk
    · cases hx
  | func f =>
    simp only [rdOp, Option.some.injEq] at hx
    subst hx
    exact ⟨⟨rfl, rfl⟩, fun c hc => by simp only [PV.cells, FV.cells, List.mem_singleton] at hc; subst hc; trivial⟩
  | global g => cases hx

/-- Values, one for one. -/
structure PsR (E : Env) (mem : Nat → MRes) (vs : List PV) (xs : List Value) : Prop where
  len : xs.length = vs.length
  get : ∀ (j : Nat) (v : PV), vs[j]? = some v → (∃ y, xs[j]? = some y ∧ PR E v y) ∧ Fits mem v

theorem PsR.nil (E : Env) (mem : Nat → MRes) : PsR E mem [] [] := ⟨rfl, fun j v hj => by simp at hj⟩
theorem PsR.cons {E : Env} {mem : Nat → MRes} {v : PV} {x : Value} {vs : List PV} {xs : List Value} (h : PR E v x) (hf : Fits mem v) (k : PsR E mem vs xs) : PsR E mem (v :: vs) (x :: xs) :=
  ⟨by simp [k.len], fun j u hj => by
    cases j with
    | zero => simp at hj; subst hj; exact ⟨⟨x, rfl, h⟩, hf⟩
    | succ j => exact k.get j u (by simpa using hj)⟩
theorem PsR.head {E : Env} {mem : Nat → MRes} {v : PV} {vs : List PV} {xs : List Value} (h : PsR E mem (v :: vs) xs) : ∃ x xs', xs = x :: xs' ∧ PR E v x ∧ Fits mem v ∧ PsR E mem vs xs' := by
  cases xs with
  | nil => have := h.len; simp at this
  | cons x xs =>
    obtain ⟨⟨y, h1, h2⟩, h3⟩ := h.get 0 v rfl
    simp at h1; subst h1
    exact ⟨x, xs, rfl, h2, h3, by have := h.len; simpa using this, fun j u hj => h.get (j + 1) u (by simpa using hj)⟩

theorem mapOps_sound {we : World} {E : Env} {σ : St} {a : Act} {w : World} (h : RelE we E σ a w) {gs : List (Nat × Bool)} (hg : Holds a gs) : ∀ {l : List Operand} {vs : List PV}, mapOps (rdOp σ.tmps gs) l = some vs → PsR E σ.mem vs (l.map a.eval)
  | [], vs, hv => by
    simp only [mapOps, Option.some.injEq] at hv
    subst hv
    exact .nil E σ.mem
  | x :: l, vs, hv => by
    simp only [mapOps] at hv
    split at hv
    · rename_i v us hx hl
      simp at hv; subst hv
      obtain ⟨h1, h2⟩ := rdOp_sound h hg hx
      exact .cons h1 h2 (mapOps_sound h hg hl)
    · cases hv

/-! ### what an operation comes to -/

def COK (P : Program) (we : World) (E : Env) (mem : Nat → MRes) (a : Act) (w : World) (o : Oper) (self : Nat) (ids : List Nat) (cont : List Res) (out : Out) : Prop :=
  (∃ v x, out.val = some v ∧ out.new = none ∧ out.wr = none ∧ PR E v x ∧ Fits mem v ∧ (execOp a.eval o).run P w = .ok (.value x) w) ∨
  (∃ v f args, out.val = some v ∧ out.new = none ∧ out.wr = none ∧ Fits (fun _ => .free) v ∧ (execOp a.eval o).run P w = .ok (.enter f args) w ∧
    Calls P f args w fun e w' => ∃ x, e = .returned x ∧ Below w.heap.size w w' ∧ PR (E.frz w w') v x) ∨
  (∃ e m f args, out.val = some (.fv (.one (.own self))) ∧ out.new = some (.row e m) ∧ out.wr = none ∧ (execOp a.eval o).run P w = .ok (.enter f args) w ∧
    Calls P f args w fun ex w' => ∃ x xs, ex = .returned x ∧ Below w.heap.size w w' ∧ w'.ownsRow w.heap.size e m.sz x m.len xs ∧ RowR E m xs) ∨
  (∃ T cs xs, out.val = some (.fv (.one (.ref self 0))) ∧ out.new = some (.blk T cs) ∧ out.wr = none ∧ CsR E cs xs ∧ (∀ c ∈ cs, c.fits mem) ∧
    (execOp a.eval o).run P w = .ok (.value (.pointer (some ⟨w.heap.size, 0, none⟩))) (w.alloc (.cells xs.toArray T))) ∨
  (∃ id r r' w' nx, ids = [id] ∧ cont = [r] ∧ out.val = none ∧ out.new = none ∧ out.wr = some [.val r'] ∧ (nx = .skip ∨ ∃ x, nx = .value x) ∧ (execOp a.eval o).run P w = .ok nx w' ∧ w.grownBy w' (blkNo E id r) ∧ blkNo E id r' = blkNo E id r ∧
    ∀ mem' : Nat → MRes, (∀ k, Live mem k → Live mem' k) → RRel we.heap.size E mem' w' id r') ∨
  (∃ e m x xs w', out.val = some (.fv (.one (.own self))) ∧ out.new = some (.row e m) ∧ out.wr = none ∧ (execOp a.eval o).run P w = .ok (.value x) w' ∧ w'.ownsRow we.heap.size e m.sz x m.len xs ∧ RowR E m xs ∧ w.grownBy w' none ∧ ∀ b, x.ownBlock = some b → w.heap.size ≤ b) ∨
  (∃ e m x xs w' id rest r rest', ids = id :: rest ∧ cont = r :: rest' ∧ out.val = some (.fv (.one (.own self))) ∧ out.new = some (.row e m) ∧ out.wr = some [.lost] ∧ (execOp a.eval o).run P w = .ok (.value x) w' ∧ w'.ownsRow we.heap.size e m.sz x m.len xs ∧ RowR E m xs ∧
    w.grownBy w' (blkNo E id r) ∧ ∀ b, x.ownBlock = some b → blkNo E id r = some b ∨ w.heap.size ≤ b) ∨
  (∃ v x w', out.val = some v ∧ out.new = none ∧ out.wr = none ∧ Fits (fun _ => .free) v ∧ (execOp a.eval o).run P w = .ok (.value x) w' ∧ Below w.heap.size w w' ∧ PR (E.frz w w') v x) ∨
  (∃ e m x w' id, ids = [id] ∧ cont = [.row e m] ∧ out.val = some (.fv (.one (.slc true m))) ∧ out.new = none ∧ out.wr = some [.lost] ∧ (execOp a.eval o).run P w = .ok (.value x) w' ∧ w.grownBy w' (blkNo E id (.row e m)) ∧
    (∀ b, x.ownBlock = some b → blkNo E id (.row e m) = some b ∧ b < w'.heap.size) ∧ ∀ E' : Env, E'.n0 = E.n0 → E'.wf = w' → (∀ b, x.ownBlock = some b → E'.F b) → CR E' (.slc true m) x)

section
variable {P : Program} {ctrs : FuncId → Option Contract} {we : World} {E : Env} {σ : St} {a : Act} {w : World} {o : Oper} {gs : List (Nat × Bool)} {self : Nat} {ids : List Nat} {cont : List Res} {out : Out}

theorem COK.pure {v : PV} {x : Value} {ps : List Prop} (h : PR E v x) (hf : Fits σ.mem v) (hr : (execOp a.eval o).run P w = .ok (.value x) w) : COK P we E σ.mem a w o self ids cont { need := ps, val := some v } :=
  .inl ⟨v, x, rfl, rfl, rfl, h, hf, hr⟩

theorem fits_one {mem : Nat → MRes} {c : Cell} (h : c.fits mem) : Fits mem (.fv (.one c)) := fun x hx => by
  simp only [PV.cells, FV.cells, List.mem_singleton] at hx
  subst hx
  exact h
theorem of_fits_one {mem : Nat → MRes} {c : Cell} (h : Fits mem (.fv (.one c))) : c.fits mem := h c (by simp [PV.cells, FV.cells])

theorem COK.int {k : IntKind} {n : Int} {ps : List Prop} (hr : (execOp a.eval o).run P w = .ok (.value (.int k n)) w) : COK P we E σ.mem a w o self ids cont { need := ps, val := some (.fv (.one (.int k n))) } :=
  .pure (v := .fv (.one (.int k n))) rfl (fits_one (c := .int k n) trivial) hr
theorem COK.bool {b : Bool} {ps : List Prop} (hr : (execOp a.eval o).run P w = .ok (.value (.bool b)) w) : COK P we E σ.mem a w o self ids cont { need := ps, val := some (.fv (.one (.bool b))) } :=
  .pure (v := .fv (.one (.bool b))) rfl (fits_one (c := .bool b) trivial) hr

/-! ### a choice between two values -/

theorem sel_slc {E : Env} {nw nw' : Bool} {b : Bool} {m m' x : SL} (h : SL.sel b m m' = some x) {u : Value} (h1 : b = true → CR E (.slc nw m) u) (h2 : b = false → CR E (.slc nw' m') u) : CR E (.slc (nw && nw') x) u := by
  unfold SL.sel at h
  split at h
  · rename_i l hl
    have hm := SL.as_eq hl
    simp at h
    cases b with
    | true =>
      have h3 : x = m := by rw [← h]; rfl
      rw [h3]
      cases nw <;> cases nw' <;> first | exact h1 rfl | exact lim_slc (h1 rfl)
    | false =>
      have h3 : x = m' := by rw [← h, hm]; rfl
      rw [h3]
      cases nw <;> cases nw' <;> first | exact h2 rfl | exact lim_slc (h2 rfl)
  · cases h

theorem condC_rel {b : Bool} {x y c : Cell} (h : condC b x y = some c) {u : Value} (h1 : b = true → CR E x u) (h2 : b = false → CR E y u) : CR E c u := by
  unfold condC at h
  split at h
  · split at h
    · rename_i hk
      simp at h; subst h
      subst hk
      cases b with
      | true => exact h1 rfl
      | false => exact h2 rfl
    · cases h
  · simp at h; subst h
    cases b with
    | true => exact h1 rfl
    | false => exact h2 rfl
  · split at h
    · rename_i hk
      simp at h; subst h
      obtain ⟨rfl, rfl⟩ := hk
      cases b with
      | true => exact h1 rfl
      | false => exact h2 rfl
    · cases h
  · split at h
    · rename_i hk
      simp at h; subst h
      subst hk
      cases b with
      | true => exact h1 rfl
      | false => exact h2 rfl
    · cases h
  · split at h
    · rename_i x hx
      simp at h; subst h
      exact sel_slc hx h1 h2
    · cases h
  · simp at h; subst h
    cases b with
    | true => exact h1 rfl
    | false => exact h2 rfl
  · simp at h; subst h
    cases b with
    | true => exact h1 rfl
    | false => exact oneCell_of (h2 rfl)
  · simp at h; subst h
    cases b with
    | true => exact oneCell_of (h1 rfl)
    | false => exact h2 rfl
  · split at h
    · split at h
      · simp at h; subst h
        cases b with
        | true => exact (h1 rfl).elim
        | false => exact (h2 rfl).elim
      · cases h
    · cases h
  · cases h

theorem condC_fits {mem : Nat → MRes} {b : Bool} {x y c : Cell} (h : condC b x y = some c) (h1 : b = true → x.fits mem) (h2 : b = false → y.fits mem) : c.fits mem := by
  unfold condC at h
  split at h
  · split at h
    · simp at h; subst h; trivial
    · cases h
  · simp at h; subst h; trivial
  · split at h
    · rename_i hk
      simp at h; subst h
      obtain ⟨rfl, rfl⟩ := hk
      cases b with
      | true => exact h1 rfl
      | false => exact h2 rfl
    · cases h
  · split at h
    · rename_i hk
      simp at h; subst h
      subst hk
      cases b with
      | true => exact h1 rfl
      | false => exact h2 rfl
    · cases h
  · split at h
    · simp at h; subst h; trivial
    · cases h
  · simp at h; subst h; trivial
  · simp at h; subst h; trivial
  · simp at h; subst h; trivial
  · split at h
    · split at h
      · simp at h; subst h; trivial
      · cases h
    · cases h
  · cases h

theorem condCs_spec {b : Bool} : ∀ {x y c : List Cell}, condCs b x y = some c → c.length = x.length ∧ c.length = y.length ∧ ∀ (j : Nat) (d : Cell), c[j]? = some d → ∃ u v, x[j]? = some u ∧ y[j]? = some v ∧ condC b u v = some d
  | [], [], c, h => by
    simp only [condCs, Option.some.injEq] at h
    subst h
    exact ⟨rfl, rfl, fun j d hj => by simp at hj⟩
  | u :: x, v :: y, c, h => by
    simp only [condCs] at h
    split at h
    · rename_i d ds h1 h2
      simp at h; subst h
      obtain ⟨i1, i2, i3⟩ := condCs_spec h2
      refine ⟨by simp [i1], by simp [i2], fun j e hj => ?_⟩
      cases j with
      | zero => simp at hj; subst hj; exact ⟨u, v, rfl, rfl, h1⟩
      | succ j => exact i3 j e (by simpa using hj)
    · cases h
  | [], _ :: _, c, h => by cases h
  | _ :: _, [], c, h => by cases h

theorem condF_rel {b : Bool} {x y c : FV} (h : condF b x y = some c) {u : Value} (h1 : b = true → FR E x u) (h2 : b = false → FR E y u) : FR E c u := by
  cases x with
  | one x =>
    cases y with
    | one y =>
      simp only [condF, Option.map_eq_some_iff] at h
      obtain ⟨d, hd, rfl⟩ := h
      exact condC_rel hd h1 h2
    | agg y => cases h
  | agg x =>
    cases y with
    | one y => cases h
    | agg y =>
      simp only [condF, Option.map_eq_some_iff] at h
      obtain ⟨d, hd, rfl⟩ := h
      obtain ⟨i1, i2, i3⟩ := condCs_spec hd
      cases b with
      | true =>
        obtain ⟨xs, rfl, h3⟩ := h1 rfl
        refine ⟨xs, rfl, by rw [h3.len, i1], fun j e hj => ?_⟩
        obtain ⟨p, q, hp, _, hc⟩ := i3 j e hj
        obtain ⟨y, h4, h5⟩ := h3.get j p hp
        exact ⟨y, h4, condC_rel hc (fun _ => h5) (fun e => by cases e)⟩
      | false =>
        obtain ⟨xs, rfl, h3⟩ := h2 rfl
        refine ⟨xs, rfl, by rw [h3.len, i2], fun j e hj => ?_⟩
        obtain ⟨p, q, _, hq, hc⟩ := i3 j e hj
        obtain ⟨y, h4, h5⟩ := h3.get j q hq
        exact ⟨y, h4, condC_rel hc (fun e => by cases e) (fun _ => h5)⟩

theorem condF_fits {mem : Nat → MRes} {b : Bool} {x y c : FV} (h : condF b x y = some c) (h1 : b = true → ∀ d ∈ x.cells, d.fits mem) (h2 : b = false → ∀ d ∈ y.cells, d.fits mem) : ∀ d ∈ c.cells, d.fits mem := by
  cases x with
  | one x =>
    cases y with
    | one y =>
      simp only [condF, Option.map_eq_some_iff] at h
      obtain ⟨d, hd, rfl⟩ := h
      intro e he
      simp [FV.cells] at he
      subst he
      exact condC_fits hd (fun e => h1 e x (by simp [FV.cells])) (fun e => h2 e y (by simp [FV.cells]))
    | agg y => cases h
  | agg x =>
    cases y with
    | one y => cases h
    | agg y =>
      simp only [condF, Option.map_eq_some_iff] at h
      obtain ⟨d, hd, rfl⟩ := h
      obtain ⟨_, _, i3⟩ := condCs_spec hd
      intro e he
      obtain ⟨j, hj, rfl⟩ := List.getElem_of_mem he
      obtain ⟨p, q, hp, hq, hc⟩ := i3 j _ (List.getElem?_eq_getElem hj)
      exact condC_fits hc (fun e => h1 e p (List.mem_of_getElem? hp)) (fun e => h2 e q (List.mem_of_getElem? hq))

theorem condFs_spec {b : Bool} : ∀ {x y c : List FV}, condFs b x y = some c → c.length = x.length ∧ c.length = y.length ∧ ∀ (j : Nat) (d : FV), c[j]? = some d → ∃ u v, x[j]? = some u ∧ y[j]? = some v ∧ condF b u v = some d
  | [], [], c, h => by
    simp only [condFs, Option.some.injEq] at h
    subst h
    exact ⟨rfl, rfl, fun j d hj => by simp at hj⟩
  | u :: x, v :: y, c, h => by
    simp only [condFs] at h
    split at h
    · rename_i d ds h1 h2
      simp at h; subst h
      obtain ⟨i1, i2, i3⟩ := condFs_spec h2
      refine ⟨by simp [i1], by simp [i2], fun j e hj => ?_⟩
      cases j with
      | zero => simp at hj; subst hj; exact ⟨u, v, rfl, rfl, h1⟩
      | succ j => exact i3 j e (by simpa using hj)
    · cases h
  | [], _ :: _, c, h => by cases h
  | _ :: _, [], c, h => by cases h

theorem condV_rel {b : Bool} {x y c : PV} (h : condV b x y = some c) {u : Value} (h1 : b = true → PR E x u) (h2 : b = false → PR E y u) : PR E c u := by
  cases x with
  | fv x =>
    cases y with
    | fv y =>
      simp only [condV, Option.map_eq_some_iff] at h
      obtain ⟨d, hd, rfl⟩ := h
      exact condF_rel hd h1 h2
    | tup y => cases h
    | clo g y => cases h
    | isn g => cases h
  | clo g x => cases y <;> cases h
  | isn g => cases y <;> cases h
  | tup x =>
    cases y with
    | fv y => cases h
    | clo g y => cases h
    | isn g => cases h
    | tup y =>
      simp only [condV, Option.map_eq_some_iff] at h
      obtain ⟨d, hd, rfl⟩ := h
      obtain ⟨i1, i2, i3⟩ := condFs_spec hd
      cases b with
      | true =>
        obtain ⟨xs, rfl, h3, h4⟩ := h1 rfl
        refine ⟨xs, rfl, by rw [h3, i1], fun j e hj => ?_⟩
        obtain ⟨p, q, hp, _, hc⟩ := i3 j e hj
        obtain ⟨y, h5, h6⟩ := h4 j p hp
        exact ⟨y, h5, condF_rel hc (fun _ => h6) (fun e => by cases e)⟩
      | false =>
        obtain ⟨xs, rfl, h3, h4⟩ := h2 rfl
        refine ⟨xs, rfl, by rw [h3, i2], fun j e hj => ?_⟩
        obtain ⟨p, q, _, hq, hc⟩ := i3 j e hj
        obtain ⟨y, h5, h6⟩ := h4 j q hq
        exact ⟨y, h5, condF_rel hc (fun e => by cases e) (fun _ => h6)⟩

theorem condV_fits {mem : Nat → MRes} {b : Bool} {x y c : PV} (h : condV b x y = some c) (h1 : b = true → Fits mem x) (h2 : b = false → Fits mem y) : Fits mem c := by
  cases x with
  | fv x =>
    cases y with
    | fv y =>
      simp only [condV, Option.map_eq_some_iff] at h
      obtain ⟨d, hd, rfl⟩ := h
      exact condF_fits hd h1 h2
    | tup y => cases h
    | clo g y => cases h
    | isn g => cases h
  | clo g x => cases y <;> cases h
  | isn g => cases y <;> cases h
  | tup x =>
    cases y with
    | fv y => cases h
    | clo g y => cases h
    | isn g => cases h
    | tup y =>
      simp only [condV, Option.map_eq_some_iff] at h
      obtain ⟨d, hd, rfl⟩ := h
      obtain ⟨_, _, i3⟩ := condFs_spec hd
      intro e he
      simp only [PV.cells, List.mem_flatMap] at he
      obtain ⟨v, hv, hev⟩ := he
      obtain ⟨j, hj, rfl⟩ := List.getElem_of_mem hv
      obtain ⟨p, q, hp, hq, hc⟩ := i3 j _ (List.getElem?_eq_getElem hj)
      exact condF_fits hc (fun e d hd => h1 e d (List.mem_flatMap.2 ⟨p, List.mem_of_getElem? hp, hd⟩)) (fun e d hd => h2 e d (List.mem_flatMap.2 ⟨q, List.mem_of_getElem? hq, hd⟩)) e hev

/-! ### types and parts -/

theorem run_isAgg (P : Program) (t : TypeId) (w : World) {d : TypeDesc} (h : P.underlying t = some d) : (isAgg t).run P w = .ok (isAggT P t) w := by
  unfold isAgg isAggT
  simp only [Sem.run_bind, run_underlying h, Result.andThen_ok, h]
  cases d <;> rfl

theorem info_of_cells {P : Program} {t : TypeId} (h : P.cellsOf t ≠ 0) : ∃ i, P.info? t = some i ∧ i.size = P.cellsOf t := by
  unfold Program.cellsOf at *
  cases hi : P.info? t with
  | none => rw [hi] at h; simp at h
  | some i => exact ⟨i, rfl, by simp⟩

theorem run_sizeOf {P : Program} {t : TypeId} {i : TypeInfo} (h : P.info? t = some i) (w : World) : (sizeOf t).run P w = .ok (P.cellsOf t) w := by
  simp [sizeOf, typeInfo, h, Program.cellsOf]

theorem partOf_cells {P : Program} {t : TypeId} {cs : List Cell} {off : Nat} {v : FV} (h : partOf P t cs off = some v) : ∀ c ∈ v.cells, c ∈ cs := by
  unfold partOf at h
  split at h
  · split at h
    · split at h
      · simp at h; subst h
        intro c hc
        exact List.mem_of_mem_drop (List.mem_of_mem_take hc)
      · cases h
    · split at h
      · rename_i c hc
        simp at h; subst h
        intro u hu
        simp [FV.cells] at hu
        subst hu
        exact List.mem_of_getElem? hc
      · cases h
  · cases h

theorem load_sound {P : Program} {E : Env} {w : World} {t : TypeId} {cs : List Cell} {off : Nat} {v : FV} (h : partOf P t cs off = some v) {a : Addr}
    (hc : ∀ (j : Nat) (c : Cell), cs[off + j]? = some c → ∃ y, w.cell? (a.add j) = some y ∧ CR E c y) : ∃ x, (loadVar t a).run P w = .ok x w ∧ FR E v x := by
  unfold partOf at h
  split at h
  · rename_i d i hd hi
    unfold loadVar
    simp only [Sem.run_bind, run_isAgg P t w hd, Result.andThen_ok]
    split at h
    · rename_i ha
      split at h
      · rename_i hle
        simp at h; subst h
        simp only [ha, if_true, Sem.run_bind, sizeOf, typeInfo, run_program, Result.andThen_ok, hi, Sem.run_pure]
        have hex : ∀ j, ∃ y, ∀ c, ((cs.drop off).take i.size)[j]? = some c → w.cell? (a.add j) = some y ∧ CR E c y := fun j => by
          cases hx : ((cs.drop off).take i.size)[j]? with
          | none => exact ⟨undef, fun c hc => by cases hc⟩
          | some c =>
            rw [List.getElem?_take] at hx
            split at hx
            · obtain ⟨y, h1, h2⟩ := hc j c (by simpa using hx)
              exact ⟨y, fun c' hc' => by cases hc'; exact ⟨h1, h2⟩⟩
            · cases hx
        let xs : List Value := (List.range i.size).map fun j => (hex j).choose
        have hlen : xs.length = i.size := by simp [xs]
        have hcl : ((cs.drop off).take i.size).length = i.size := by simp; omega
        have hl := run_loadCells_list (P := P) w a xs (fun j u hu => by
          simp only [xs, List.getElem?_map] at hu
          cases hr : (List.range i.size)[j]? with
          | none => rw [hr] at hu; cases hu
          | some k =>
            have hk := List.getElem?_eq_some_iff.1 hr
            obtain ⟨hlt, hke⟩ := hk
            simp at hlt hke
            subst hke
            rw [hr] at hu
            simp at hu; subst hu
            exact ((hex j).choose_spec _ (List.getElem?_eq_getElem (by rw [hcl]; exact hlt))).1)
        rw [hlen] at hl
        refine ⟨_, by rw [hl]; rfl, xs, rfl, by rw [hlen, hcl], fun j c hj => ?_⟩
        have hlt : j < i.size := by have := (List.getElem?_eq_some_iff.1 hj).1; omega
        refine ⟨(hex j).choose, by simp [xs, hlt], ((hex j).choose_spec c hj).2⟩
      · cases h
    · rename_i ha
      split at h
      · rename_i c hcc
        simp at h; subst h
        obtain ⟨y, h0, h1⟩ := hc 0 c (by simpa using hcc)
        have ha' : isAggT P t = false := by simpa using ha
        have h2 : w.cell? a = some y := by simpa [Addr.add] using h0
        refine ⟨y, ?_, h1⟩
        simp only [ha', Bool.false_eq_true, if_false, run_load, h2]
      · cases h
  · cases h

theorem part_sound {P : Program} {E : Env} {w : World} {t : TypeId} {cs : List Cell} {xs : List Value} (hx : CsR E cs xs) {off : Nat} {v : FV} (h : partOf P t cs off = some v) : ∃ x, (part t xs.toArray off).run P w = .ok x w ∧ FR E v x := by
  unfold partOf at h
  split at h
  · rename_i d i hd hi
    unfold part
    simp only [Sem.run_bind, run_isAgg P t w hd, Result.andThen_ok]
    split at h
    · rename_i ha
      split at h
      · rename_i hle
        simp at h; subst h
        simp only [ha, if_true, Sem.run_bind, sizeOf, typeInfo, run_program, Result.andThen_ok, hi, Sem.run_pure]
        refine ⟨_, rfl, (xs.drop off).take i.size, ?_, (hx.drop off).take i.size⟩
        congr 1
        apply Array.ext'
        simp
      · cases h
    · rename_i ha
      split at h
      · rename_i c hcc
        simp at h; subst h
        obtain ⟨y, h1, h2⟩ := hx.get off c hcc
        have ha' : isAggT P t = false := by simpa using ha
        refine ⟨y, ?_, h2⟩
        simp [ha', h1]
      · cases h
  · cases h

theorem fieldsOf_spec {P : Program} {t : TypeId} {fs : Array Field} (h : fieldsOf P t = some fs) : P.underlying t = some (.struct fs) := by
  unfold fieldsOf at h
  split at h
  · rename_i fs' hu
    simp at h; subst h; exact hu
  · cases h

theorem arrOf_spec {P : Program} {t : TypeId} {x : Nat × TypeId} (h : arrOf P t = some x) : P.underlying t = some (.array x.1 x.2) := by
  unfold arrOf at h
  split at h
  · rename_i n e hu
    simp at h; subst h; exact hu
  · cases h

theorem elemOf_spec {P : Program} {t e : TypeId} (h : elemOf P t = some e) : P.underlying t = some (.slice e) := by
  unfold elemOf at h
  split at h
  · rename_i e' hu
    simp at h; subst h; exact hu
  · cases h

theorem run_fieldPlace {P : Program} {f : Field} {i : TypeInfo} (hi : P.info? f.type = some i) (h0 : i.size ≠ 0) (a : Addr) (w : World) : (fieldPlace a f).run P w = .ok (a.add f.offset) w := by
  simp [fieldPlace, sizeOf, typeInfo, hi, h0]

theorem contOf_one {gs : List (Nat × Bool)} {mem : Nat → MRes} {a : Act} (hg : Holds a gs) {id : Nat} {cont : List Res} (h : contOf gs mem [id] = some cont) : ∃ r, cont = [r] ∧ Has mem a.tmps id r := by
  simp only [contOf] at h
  split at h
  · rename_i r l hm hl
    simp at hl h; subst hl; subst h
    exact ⟨r, rfl, .inl hm⟩
  · rename_i gt want r l hm hl
    split at h
    · rename_i hany
      simp at hl h; subst hl; subst h
      refine ⟨r, rfl, .inr ⟨gt, want, hm, ?_⟩⟩
      obtain ⟨g, hgm, hge⟩ := List.any_eq_true.1 hany
      simp at hge
      have := hg g hgm
      rw [hge.1, hge.2] at this
      exact this
    · cases h
  · cases h

/-! ### moves and choices -/

theorem CsR_of_eq {cs : List Cell} {xs ys : List Value} (h : CsR E cs xs) (e : xs = ys) : CsR E cs ys := e ▸ h

theorem RowR_nil (k : K) : RowR E ⟨k, []⟩ [] := fun _ hi => absurd hi (Nat.not_lt_zero _)

theorem core_move (h : RelE we E σ a w) (hg : Holds a gs) {x : Operand} (ho : o.op = .move x ∨ o.op = .assign x) (hc : core P ctrs o (rdOp σ.tmps) gs self ids cont = some out) : COK P we E σ.mem a w o self ids cont out := by
  have hrun : (execOp a.eval o).run P w = .ok (.value (a.eval x)) w := by
    rcases ho with ho | ho <;> simp [execOp, ho]
  have hpure : ∀ v, rdOp σ.tmps gs x = some v → COK P we E σ.mem a w o self ids cont { need := [], val := some v } := fun v hv => by
    obtain ⟨h1, h2⟩ := rdOp_sound h hg hv
    exact COK.pure h1 h2 hrun
  have hc' : moveOut P self o.type (rdOp σ.tmps gs x) = some out := by
    rcases ho with ho | ho <;> simpa only [core, ho] using hc
  unfold moveOut at hc'
  split at hc'
  · rename_i v hx
    have hraw : pureOut (one (.raw v)) = some out → COK P we E σ.mem a w o self ids cont out := fun he => by
      simp only [one, pureOut, Option.some.injEq] at he
      subst he
      exact hpure _ hx
    split at hc'
    · rename_i hn
      split at hc'
      · rename_i e hu
        split at hc'
        · rename_i k hk
          split at hc'
          · simp only [one, Option.some.injEq] at hc'
            subst hc'
            have hv := nilV_eq hn
            obtain ⟨h1, _⟩ := rdOp_sound h hg hx
            have e1 : a.eval x = .slice none 0 0 := by rw [← hv]; exact h1.1
            refine .inr (.inr (.inr (.inr (.inr (.inl ⟨e, ⟨k, []⟩, .slice none 0 0, [], w, rfl, rfl, rfl, by rw [hrun, e1], World.ownsRow_nil _ _ _ _, RowR_nil k, ⟨rfl, rfl, rfl, Nat.le_refl _, fun _ _ _ => rfl⟩, fun b hb => by cases hb⟩)))))
          · cases hc'
        · exact hraw hc'
      · exact hraw hc'
    · exact hraw hc'
  · rename_i v hne
    cases hx : rdOp σ.tmps gs x with
    | none => rw [hx] at hc'; cases hc'
    | some u =>
      rw [hx] at hc'
      simp only [pureOut, Option.some.injEq] at hc'
      subst hc'
      exact hpure _ hx

theorem core_pick (h : RelE we E σ a w) (hg : Holds a gs) {c x y : Operand} (ho : o.op = .pick c x y) (hc : core P ctrs o (rdOp σ.tmps) gs self ids cont = some out) : COK P we E σ.mem a w o self ids cont out := by
  simp only [core, ho] at hc
  split at hc
  · rename_i bc hbc
    obtain ⟨h1, _⟩ := rdOp_sound h hg hbc
    split at hc
    · rename_i t
      split at hc
      · rename_i va vb ha hb
        cases hv : condV bc va vb with
        | none => rw [hv] at hc; cases hc
        | some v =>
          rw [hv] at hc
          simp only [pureOut, Option.some.injEq] at hc
          subst hc
          have h1 : a.tmps.getD t undef = .bool bc := by simpa [Act.eval] using (show a.eval (.tmp t) = .bool bc from h1)
          have hta : bc = true → Holds a ((t, true) :: gs) := fun e g hgm => by
            rcases List.mem_cons.1 hgm with rfl | hgm
            · subst e; exact h1
            · exact hg g hgm
          have htb : bc = false → Holds a ((t, false) :: gs) := fun e g hgm => by
            rcases List.mem_cons.1 hgm with rfl | hgm
            · subst e; exact h1
            · exact hg g hgm
          have hcb : a.eval (.tmp t) = .bool bc := by simpa [Act.eval] using h1
          refine COK.pure (x := if bc then a.eval x else a.eval y) (condV_rel hv (fun e => ?_) (fun e => ?_)) (condV_fits hv (fun e => (rdOp_sound h (hta e) ha).2) (fun e => (rdOp_sound h (htb e) hb).2)) ?_
          · rw [if_pos e]; exact (rdOp_sound h (hta e) ha).1
          · rw [if_neg (by rw [e]; simp)]; exact (rdOp_sound h (htb e) hb).1
          · simp [execOp, ho, hcb, asBool]
      · cases hc
    · cases hc
  · cases hc

/-! ### memory -/

theorem zero_rel {z : Value} (h : z.cells.all (·.oneCell') = true) (ts : List TypeId) : CsR E (retCs P ts (z.cells.toList.map ofVal)) z.cells.toList :=
  retCs_rel (map_ofVal_rel E fun v hv => Array.all_eq_true'.1 h v (by simpa using hv))
theorem zero_fits {mem : Nat → MRes} {z : Value} (ts : List TypeId) : ∀ c ∈ retCs P ts (z.cells.toList.map ofVal), c.fits mem := retCs_fits (map_ofVal_fits mem _)

theorem core_alloc {T : TypeId} (ho : o.op = .alloc T) (hc : core P ctrs o (rdOp σ.tmps) gs self ids cont = some out) : COK P we E σ.mem a w o self ids cont out := by
  simp only [core, ho] at hc
  split at hc
  · rename_i i hi
    split at hc
    · rename_i z hz
      split at hc
      · rename_i hone
        simp only [one, Option.some.injEq] at hc; subst hc
        refine .inr (.inr (.inr (.inl ⟨T, _, z.cells.toList, rfl, rfl, rfl, zero_rel hone _, zero_fits _, ?_⟩)))
        rw [Array.toArray_toList]
        simp [execOp, ho, Instr.alloc, zeroValue, typeInfo, hi, hz, newVar, newRow]
      · cases hc
    · cases hc
  · cases hc

theorem core_box (h : RelE we E σ a w) (hg : Holds a gs) {T : TypeId} {x : Operand} (ho : o.op = .box T x) (hc : core P ctrs o (rdOp σ.tmps) gs self ids cont = some out) : COK P we E σ.mem a w o self ids cont out := by
  simp only [core, ho] at hc
  split at hc
  · rename_i v hv
    simp only [one, Option.some.injEq] at hc; subst hc
    obtain ⟨h1, h2⟩ := rdOp_sound h hg hv
    have h3 := FR.cells (retF_rel (P := P) (T := T) (show FR E v (a.eval x) from h1))
    refine .inr (.inr (.inr (.inl ⟨T, _, (a.eval x).cells.toList, rfl, rfl, rfl, h3, retF_fits h2, ?_⟩)))
    rw [Array.toArray_toList]
    simp [execOp, ho, Instr.box, newVar, newRow]
  · cases hc

/-- What lies behind a pointer into a slice that does not change. -/
theorem rp_cells (h : RelE we E σ a w) {m : SL} {i off : Nat} {x : Value} (hx : CR E (.rp m i off) x) : ∃ ad : Addr, x = .pointer (some ad) ∧ ∀ (j : Nat) (c : Cell), (m.at i)[off + j]? = some c → ∃ y, w.cell? (ad.add j) = some y ∧ CR E c y := by
  obtain ⟨ad, h1, hF, h2⟩ := hx
  refine ⟨_, h1, fun j c hj => ?_⟩
  obtain ⟨y, h3, h4⟩ := h2 _ c hj
  refine ⟨y, ?_, CRd_up 3 h4⟩
  rw [add_add, show i * m.sz + off + j = i * m.sz + (off + j) by omega]
  rw [World.cell?_of_block (w := E.wf)]
  · exact h3
  · rw [add_block]; exact (h.fz _ hF).2

/-- What lies behind a pointer into a slice of the call's own. -/
theorem orp_cells (h : RelE we E σ a w) {id sz i off : Nat} {e : TypeId} {m : SL} (hh : Has σ.mem a.tmps id (.row e m)) (hsz : sz = m.sz) (hi : i < m.len) {x : Value} (hx : CR E (.orp id sz i off) x) :
    ∃ ad : Addr, x = .pointer (some ad) ∧ ∀ (j : Nat) (c : Cell), (m.at i)[off + j]? = some c → ∃ y, w.cell? (ad.add j) = some y ∧ CR E c y := by
  subst hsz
  obtain ⟨xs, hown, hrow⟩ := h.mem id _ hh
  obtain ⟨ad, len, cap, hγ, h1⟩ := hx
  refine ⟨_, h1, fun j c hj => ?_⟩
  obtain ⟨y, h2, h3⟩ := hrow i hi _ c hj
  refine ⟨y, ?_, h3⟩
  rcases hown.2 with ⟨_, h0⟩ | ⟨g, cap', cur, hv, _, hg, hnc, _, hcs, htk⟩
  · omega
  · rw [hv] at hγ
    cases hγ
    have hlt : off + j < m.sz := SL.at_lt hj
    have hb : i * m.sz + (off + j) < m.len * m.sz := by
      have : (i + 1) * m.sz ≤ m.len * m.sz := Nat.mul_le_mul_right _ hi
      rw [Nat.add_mul, Nat.one_mul] at this
      omega
    rw [add_add, add_lit, cell_of_blk hg, ← h2, ← htk]
    rw [List.getElem?_take, if_pos hb]
    simp [Nat.add_assoc]

theorem num_at {cs : List Cell} {off n : Nat} {l : List Int} {i : Int} (hl : i64s ((cs.drop off).take n) = some l) (hn : l.length = n) (h0 : 0 ≤ i) (h1 : i < n) : cs[off + i.toNat]? = some (.int .i64 (l.getD i.toNat 0)) := by
  have e := i64s_eq hl
  have hi : i.toNat < l.length := by omega
  have e2 : ((cs.drop off).take n)[i.toNat]? = (l.map (Cell.int .i64))[i.toNat]? := by rw [e]
  rw [List.getElem?_take, if_pos (by omega), List.getElem?_drop] at e2
  rw [e2]
  simp [List.getD, hi]
theorem part_num {T : TypeId} {cs : List Cell} {off n : Nat} {c : Cell} {l : List Int} {i : Int} (hv : partOf P T cs off = some (.one c)) (hl : i64s ((cs.drop off).take n) = some l) (hn : l.length = n) (ha : isAggT P T = false) (h0 : 0 ≤ i) (h1 : i < n) :
    partOf P T cs (off + i.toNat) = some (.one (.int .i64 (l.getD i.toNat 0))) := by
  unfold partOf at hv ⊢
  split at hv
  · rw [if_neg (by rw [ha]; simp)]
    rw [num_at hl hn h0 h1]
  · cases hv

theorem core_load (h : RelE we E σ a w) (hg : Holds a gs) {T : TypeId} {x : Operand} (ho : o.op = .load T x) (hp : plan o (rdOp σ.tmps gs) = ids) (hct : contOf gs σ.mem ids = some cont)
    (hc : core P ctrs o (rdOp σ.tmps) gs self ids cont = some out) (hn : Conj out.need) : COK P we E σ.mem a w o self ids cont out := by
  have hfin : ∀ {v : FV} {ad : Addr} {cs : List Cell} {off : Nat} {ps : List Prop}, partOf P T cs off = some v → a.eval x = .pointer (some ad) → (∀ c ∈ cs, c.fits σ.mem) → (∀ (j : Nat) (c : Cell), cs[off + j]? = some c → ∃ y, w.cell? (ad.add j) = some y ∧ CR E c y) →
      COK P we E σ.mem a w o self ids cont { need := ps, val := some (.fv v) } := fun hv he hf hcs => by
    obtain ⟨y, h1, h2⟩ := load_sound (P := P) hv hcs
    refine COK.pure (v := .fv _) h2 (fun c hcm => hf c (partOf_cells hv c hcm)) ?_
    simp [execOp, ho, he, Instr.loadAt, Instr.sureAddr, h1]
  simp only [core, ho] at hc
  split at hc
  · rename_i id off T' cs hx
    obtain ⟨h1, h2⟩ := rdOp_sound h hg hx
    have hid : ids = [id] := by rw [← hp]; simp [plan, ho, hx]
    subst hid
    obtain ⟨r, hr, hh⟩ := contOf_one hg hct
    simp at hr; subst hr
    obtain ⟨_, ⟨xs, hb, hcs⟩, hfit⟩ := h.mem id _ hh
    split at hc
    · rename_i v hv
      simp only [pureOut, Option.some.injEq] at hc
      subst hc
      refine hfin hv (show a.eval x = _ from h1) hfit fun j c hj => ?_
      obtain ⟨y, h3, h4⟩ := hcs.get _ c hj
      refine ⟨y, ?_, h4⟩
      rw [add_lit, cell_of_blk hb]
      simpa using h3
    · cases hc
  · rename_i m i off hx
    obtain ⟨h1, h2⟩ := rdOp_sound h hg hx
    split at hc
    · rename_i v hv
      simp only [pureOut, Option.some.injEq] at hc
      subst hc
      obtain ⟨ad, h3, h4⟩ := rp_cells h (show CR E (.rp m i off) (a.eval x) from h1)
      exact hfin hv h3 (fun c hcm => by obtain ⟨j, hj, rfl⟩ := List.getElem_of_mem hcm; exact SL.at_fits (List.getElem?_eq_getElem hj) _) h4
    · cases hc
  · rename_i id sz i off e m hx
    obtain ⟨h1, h2⟩ := rdOp_sound h hg hx
    have hid : ids = [id] := by rw [← hp]; simp [plan, ho, hx]
    subst hid
    obtain ⟨r, hr, hh⟩ := contOf_one hg hct
    simp at hr; subst hr
    split at hc
    · rename_i hsz
      split at hc
      · rename_i v hv
        simp only [Option.some.injEq] at hc
        subst hc
        obtain ⟨ad, h3, h4⟩ := orp_cells h hh hsz hn.1 (show CR E (.orp id sz i off) (a.eval x) from h1)
        exact hfin hv h3 (fun c hcm => by obtain ⟨j, hj, rfl⟩ := List.getElem_of_mem hcm; exact SL.at_fits (List.getElem?_eq_getElem hj) _) h4
      · cases hc
    · cases hc
  · rename_i id off n i T' cs hx
    obtain ⟨h1, h2⟩ := rdOp_sound h hg hx
    have hid : ids = [id] := by rw [← hp]; simp [plan, ho, hx]
    subst hid
    obtain ⟨r, hr, hh⟩ := contOf_one hg hct
    simp at hr; subst hr
    obtain ⟨_, ⟨xs, hb, hcs⟩, hfit⟩ := h.mem id _ hh
    split at hc
    · rename_i c0 l hv hl
      split at hc
      · rename_i hln
        simp only [one, pureOut, Option.some.injEq] at hc
        subst hc
        obtain ⟨e1, hi0, hin⟩ := (show CR E (.aref id off n i) (a.eval x) from h1)
        refine hfin (part_num hv hl hln.1 hln.2 hi0 hin) e1 hfit fun j c hj => ?_
        obtain ⟨y, h3, h4⟩ := hcs.get _ c hj
        refine ⟨y, ?_, h4⟩
        rw [add_lit, cell_of_blk hb]
        simpa using h3
      · cases hc
    · cases hc
  · cases hc

end
end Go.Eng

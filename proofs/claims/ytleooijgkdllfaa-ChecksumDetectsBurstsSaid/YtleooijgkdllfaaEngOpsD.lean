/- THE ENGINE, PART 4d: each operation does what the executor says: min, max, len, calls. -/
import Derived.Test.YtleooijgkdllfaaEngOpsC
namespace Go.Eng
open Go.RowKit

/-- The function has a body of its own to enter. -/
def callable (P : Program) (f : FuncId) : Bool :=
  match P.funcs[f]? with
  | some fn => !(fn.name == "runtime.NumGoroutine") && !fn.body.isNone
  | none => false

/-- What a callee may know: the whole world stands. -/
def Env.call (w : World) : Env := { β := fun _ => 0, γ := fun _ => undef, wf := w, F := fun b => b < w.heap.size, n0 := w.heap.size }
/-- What a callee hands back lies in what it made. -/
def Env.new (w w' : World) : Env := { β := fun _ => 0, γ := fun _ => undef, wf := w', F := fun b => w.heap.size ≤ b ∧ b < w'.heap.size, n0 := w.heap.size }

def ResR (w w' : World) (r : PV) (x : Value) : Prop :=
  match r with
  | .fv (.one (.fresh e m)) => ∃ xs, w'.ownsRow w.heap.size e m.sz x m.len xs ∧ RowR (Env.new w w') m xs
  | r => PR (Env.new w w') r x

/-- A function's contract: what it comes to on arguments of this shape. -/
structure Sound (P : Program) (f : FuncId) (C : Contract) : Prop where
  call : callable P f = true
  runs : ∀ (args : List PV) (ps : List Prop) (r : PV), C args = some (ps, r) → Conj ps → ∀ (w : World) (xs : List Value), PsR (Env.call w) (fun _ => .free) args xs →
    Calls P f xs.toArray w fun e w' => ∃ x, e = .returned x ∧ Below w.heap.size w w' ∧ ResR w w' r x

/-! ### what a callee knows, and what it hands back -/

/-- Elements of these kinds hold no slices of slices. -/
def K.low : K → Bool
  | .bd => false
  | _ => true
theorem K.cells_slc {k : K} {x : k.Ty} {nw : Bool} {m : SL} (h : Cell.slc nw m ∈ k.cells x) : m.k.low = true := by
  cases k <;> simp only [K.cells, List.mem_cons, List.not_mem_nil, or_false, reduceCtorEq, false_or, Cell.slc.injEq] at h
  · rw [h.2]; rfl
  · rw [h.2]; rfl
  · rw [h.2]; rfl
theorem K.cells_low {k : K} (hk : k.low = true) {x : k.Ty} {nw : Bool} {m : SL} (h : Cell.slc nw m ∈ k.cells x) : m.k.flat = true := by
  cases k <;> simp only [K.low, Bool.false_eq_true] at hk <;> simp only [K.cells, List.mem_cons, List.not_mem_nil, or_false, reduceCtorEq, false_or, Cell.slc.injEq] at h
  · rw [h.2]; rfl
  · rw [h.2]; rfl

theorem CRd_flat_slc {m : SL} (hm : m.k.flat = true) {E : Env} {nw : Bool} {d d' : Nat} {x : Value} (h : CRd (d + 1) E (.slc nw m) x) : CRd (d' + 1) E (.slc nw m) x := by
  rcases h with h | ⟨a, cap, h1, hml, h2⟩
  · exact .inl h
  · refine .inr ⟨a, cap, h1, hml, fun i hi => ?_⟩
    obtain ⟨h3, h4⟩ := h2 i hi
    refine ⟨h3, fun j c hj => ?_⟩
    obtain ⟨y, h5, h6⟩ := h4 j c hj
    exact ⟨y, h5, CR_flat (flat_mem hm hj) h6⟩

theorem CRd_low_slc {m : SL} (hm : m.k.low = true) {E : Env} {nw : Bool} {x : Value} (h : CRd 4 E (.slc nw m) x) : CRd 3 E (.slc nw m) x := by
  rcases h with h | ⟨a, cap, h1, hml, h2⟩
  · exact .inl h
  · refine .inr ⟨a, cap, h1, hml, fun i hi => ?_⟩
    obtain ⟨h3, h4⟩ := h2 i hi
    refine ⟨h3, fun j c hj => ?_⟩
    obtain ⟨y, h5, h6⟩ := h4 j c hj
    refine ⟨y, h5, ?_⟩
    rcases SL.at_mem hj with ⟨_, _, rfl⟩ | ⟨_, rfl⟩ | ⟨m', rfl⟩
    · exact h6
    · exact h6
    · exact CRd_flat_slc (d := 2) (d' := 1) (K.cells_low hm (List.mem_of_getElem? hj)) h6

/-- Numbers, bools, fixed values, slices. -/
def Cell.base : Cell → Bool
  | .int _ _ | .bool _ | .raw _ | .unk | .slc false _ => true
  | _ => false

theorem SL.at_base {m : SL} {i j : Nat} {c : Cell} (h : (m.at i)[j]? = some c) : c.base = true := by
  rcases SL.at_mem h with ⟨_, _, rfl⟩ | ⟨_, rfl⟩ | ⟨_, rfl⟩ <;> rfl

theorem CRd_base : ∀ (d : Nat) {E E' : Env}, (∀ b, E.F b → E'.F b ∧ E'.wf.heap[b]? = E.wf.heap[b]?) → ∀ {c : Cell}, c.base = true → ∀ {x : Value}, CRd d E c x → CRd d E' c x
  | 0, E, E', h, c, hc, x, hr => by
    unfold Cell.base at hc
    split at hc <;> first | exact hr | cases hc
  | d + 1, E, E', h, c, hc, x, hr => by
    unfold Cell.base at hc
    split at hc
    · exact hr
    · exact hr
    · exact hr
    · exact hr
    · rename_i m
      rcases hr with hr | ⟨a, cap, h1, hml, h2⟩
      · exact .inl hr
      · refine .inr ⟨a, cap, h1, hml, fun i hi => ?_⟩
        obtain ⟨h3, h4⟩ := h2 i hi
        refine ⟨(h _ h3).1, fun j c hj => ?_⟩
        obtain ⟨y, h5, h6⟩ := h4 j c hj
        refine ⟨y, ?_, CRd_base d h (SL.at_base hj) h6⟩
        rw [World.cell?_of_block (w := E.wf)]
        · exact h5
        · rw [add_block]; exact (h _ h3).2
    · cases hc

/-- What a call handed back, seen by the caller. -/
theorem plain_frz {w w' : World} {E : Env} (hn : E.n0 ≤ w.heap.size) {c : Cell} (hc : c.plain = true) {x : Value} (h : CR (Env.new w w') c x) : CR (E.frz w w') c x := by
  have hF : ∀ b, (Env.new w w').F b → (E.frz w w').F b ∧ (E.frz w w').wf.heap[b]? = (Env.new w w').wf.heap[b]? := fun b hb => ⟨.inr hb, rfl⟩
  unfold Cell.plain at hc
  split at hc
  · exact h
  · exact h
  · exact h
  · exact h
  · rename_i nw m
    subst hc
    rcases h with h | ⟨a, cap, h1, hml, h2⟩
    · exact .inl h
    · refine .inr ⟨a, cap, h1, hml, fun i hi => ?_⟩
      obtain ⟨h3, h4⟩ := h2 i hi
      refine ⟨⟨.inr h3.1, Nat.le_trans hn h3.1.1⟩, fun j c hj => ?_⟩
      obtain ⟨y, h5, h6⟩ := h4 j c hj
      refine ⟨y, h5, CRd_base 3 (E := (Env.new w w').lim true) (E' := (E.frz w w').lim true) (fun b hb => ⟨⟨.inr hb.1, Nat.le_trans hn hb.2⟩, rfl⟩) (SL.at_base hj) h6⟩
  · cases hc

theorem plain_fits {c : Cell} (h : c.plain = true) (mem : Nat → MRes) : c.fits mem := by
  unfold Cell.plain at h
  split at h <;> first | trivial | cases h

theorem plainV_cells {v : PV} (h : v.plain = true) : ∀ c ∈ v.cells, c.plain = true := by
  intro c hc
  cases v with
  | fv u => exact List.all_eq_true.1 h c hc
  | tup l =>
    simp only [PV.cells, List.mem_flatMap] at hc
    obtain ⟨u, hu, hcu⟩ := hc
    exact List.all_eq_true.1 (List.all_eq_true.1 h u hu) c hcu
  | clo f l => cases h
  | isn m => cases h

theorem plainF_frz {w w' : World} {E : Env} (hn : E.n0 ≤ w.heap.size) {v : FV} (hc : v.cells.all Cell.plain = true) {x : Value} (h : FR (Env.new w w') v x) : FR (E.frz w w') v x := by
  cases v with
  | one c => exact plain_frz hn (List.all_eq_true.1 hc c (by simp [FV.cells])) h
  | agg cs =>
    obtain ⟨xs, h1, h2⟩ := h
    refine ⟨xs, h1, h2.len, fun j c hj => ?_⟩
    obtain ⟨y, h3, h4⟩ := h2.get j c hj
    exact ⟨y, h3, plain_frz hn (List.all_eq_true.1 hc c (List.mem_of_getElem? hj)) h4⟩

theorem plainV_frz {w w' : World} {E : Env} (hn : E.n0 ≤ w.heap.size) {v : PV} (hc : v.plain = true) {x : Value} (h : PR (Env.new w w') v x) : PR (E.frz w w') v x := by
  cases v with
  | fv v => exact plainF_frz hn hc h
  | tup l =>
    obtain ⟨xs, h1, h2, h3⟩ := h
    refine ⟨xs, h1, h2, fun j v hj => ?_⟩
    obtain ⟨y, h4, h5⟩ := h3 j v hj
    exact ⟨y, h4, plainF_frz hn (List.all_eq_true.1 hc v (List.mem_of_getElem? hj)) h5⟩
  | clo f l => cases hc
  | isn m => cases hc

section
variable {P : Program} {ctrs : FuncId → Option Contract} {we : World} {E : Env} {σ : St} {a : Act} {w : World} {o : Oper} {gs : List (Nat × Bool)} {self : Nat} {ids : List Nat} {cont : List Res} {out : Out}

theorem RelE.toCall (h : RelE we E σ a w) : ∀ b, E.F b → (Env.call w).F b ∧ (Env.call w).wf.heap[b]? = E.wf.heap[b]? := fun b hb => h.fz b hb

theorem blkSL_eq {cs : List Cell} {m : SL} (h : blkSL cs = some m) : m.len = 1 ∧ m.at 0 = cs := by
  unfold blkSL at h
  obtain ⟨k, _, hk⟩ := List.exists_of_findSome?_eq_some h
  obtain ⟨x, hx, rfl⟩ := Option.map_eq_some_iff.1 hk
  exact ⟨rfl, (K.of_eq hx).symm⟩

theorem viewC_rel (h : RelE we E σ a w) (hz : ∀ p ∈ ids.zip cont, Has σ.mem a.tmps p.1 p.2) {c c' : Cell} {x : Value} (hc : CR E c x) (hv : viewC ids cont c = some c') : CR (Env.call w) c' x ∧ c'.fits (fun _ => .free) := by
  unfold viewC at hv
  split at hv
  · rename_i id
    split at hv
    · rename_i id' e m hfind
      simp at hv; subst hv
      have hmem := List.mem_of_find?_eq_some hfind
      have hid := List.find?_some hfind
      simp only at hid
      have hid := Nat.eq_of_beq_eq_true hid
      have hhas := hz _ hmem
      simp only at hhas
      rw [hid] at hhas
      obtain ⟨xs, hown, hrow⟩ := h.mem id _ hhas
      have hx : x = E.γ id := hc.1
      refine ⟨?_, trivial⟩
      rcases hown.2 with ⟨h1, h2⟩ | ⟨g, cap, cur, h1, _, hgg, hnc, hcm, hcs, htk⟩
      · exact .inl ⟨by rw [hx, h1], h2⟩
      · refine .inr ⟨⟨g, 0, none⟩, cap, by rw [hx, h1], ⟨hnc, Nat.le_trans hnc hcm⟩, fun i hi => ⟨heap_lt hgg, fun j c hj => ?_⟩⟩
        obtain ⟨y, h3, h4⟩ := hrow i hi j c hj
        refine ⟨y, ?_, ?_⟩
        · show w.cell? _ = _
          rw [add_lit, cell_of_blk hgg]
          have hb : (i + 1) * m.sz ≤ m.len * m.sz := Nat.mul_le_mul_right _ hi
          rw [Nat.add_mul, Nat.one_mul] at hb
          have := SL.at_lt hj
          rw [← htk, List.getElem?_take, if_pos (by omega)] at h3
          simpa using h3
        · -- one level less: the elements hold no slices of slices
          rcases SL.at_mem hj with ⟨_, _, rfl⟩ | ⟨_, rfl⟩ | ⟨m', rfl⟩
          · exact h4
          · exact h4
          · have hm := K.cells_slc (List.mem_of_getElem? hj)
            exact CRd_base 3 h.toCall rfl (CRd_low_slc hm h4)
    · cases hv
  · rename_i id off
    split at hv
    · rename_i id' T cs hfind
      split at hv
      · rename_i m hm
        simp at hv; subst hv
        have hmem := List.mem_of_find?_eq_some hfind
        have hid := List.find?_some hfind
        simp only at hid
        have hid := Nat.eq_of_beq_eq_true hid
        have hhas := hz _ hmem
        simp only at hhas
        rw [hid] at hhas
        obtain ⟨_, ⟨xs, hb, hcs⟩, _⟩ := h.mem id _ hhas
        obtain ⟨hl, hat⟩ := blkSL_eq hm
        refine ⟨⟨⟨E.β id, 0, none⟩, ?_, heap_lt hb, fun j c hj => ?_⟩, trivial⟩
        · rw [show x = _ from hc, add_lit]; simp
        · rw [hat] at hj
          obtain ⟨y, h3, h4⟩ := hcs.get j c hj
          refine ⟨y, ?_, ?_⟩
          · show w.cell? _ = _
            rw [add_lit, cell_of_blk hb]
            simpa using h3
          · have hj' : (m.at 0)[j]? = some c := by rw [hat]; exact hj
            rcases SL.at_mem hj' with ⟨_, _, rfl⟩ | ⟨_, rfl⟩ | ⟨m', rfl⟩
            · exact h4
            · exact h4
            · exact CRd_base 3 h.toCall rfl (CRd_low_slc (K.cells_slc (List.mem_of_getElem? hj')) h4)
      · cases hv
    · cases hv
  · cases hv
  · cases hv
  · cases hv
  · cases hv
  · rename_i nw m
    simp at hv; subst hv
    exact ⟨CRd_base 4 h.toCall rfl (lim_slc hc), trivial⟩
  · simp at hv; subst hv; exact ⟨hc, trivial⟩
  · simp at hv; subst hv; exact ⟨hc, trivial⟩
  · simp at hv; subst hv; exact ⟨hc, trivial⟩
  · simp at hv; subst hv; exact ⟨hc, trivial⟩

theorem viewCs_rel (h : RelE we E σ a w) (hz : ∀ p ∈ ids.zip cont, Has σ.mem a.tmps p.1 p.2) : ∀ {cs cs' : List Cell} {xs : List Value}, CsR E cs xs → viewCs ids cont cs = some cs' → CsR (Env.call w) cs' xs ∧ ∀ c ∈ cs', c.fits (fun _ => .free)
  | [], cs', xs, hc, hv => by
    simp only [viewCs, Option.some.injEq] at hv
    subst hv
    exact ⟨⟨hc.len, fun j c hj => by simp at hj⟩, fun c hc => by cases hc⟩
  | c :: cs, cs', xs, hc, hv => by
    simp only [viewCs] at hv
    split at hv
    · rename_i c1 cs1 h1 h2
      simp at hv; subst hv
      cases xs with
      | nil => have := hc.len; simp at this
      | cons x xs =>
        obtain ⟨y, e1, e2⟩ := hc.get 0 c rfl
        simp at e1; subst e1
        obtain ⟨g1, g2⟩ := viewC_rel h hz e2 h1
        obtain ⟨g3, g4⟩ := viewCs_rel h hz (xs := xs) ⟨by have := hc.len; simpa using this, fun j d hj => hc.get (j + 1) d (by simpa using hj)⟩ h2
        refine ⟨.cons g1 g3, fun d hd => ?_⟩
        rcases List.mem_cons.1 hd with rfl | hd
        · exact g2
        · exact g4 d hd
    · cases hv

theorem viewV_rel (h : RelE we E σ a w) (hz : ∀ p ∈ ids.zip cont, Has σ.mem a.tmps p.1 p.2) {v v' : PV} {x : Value} (hc : PR E v x) (hv : viewV ids cont v = some v') : PR (Env.call w) v' x ∧ Fits (fun _ => .free) v' := by
  unfold viewV at hv
  split at hv
  · rename_i c
    cases hx : viewC ids cont c with
    | none => rw [hx] at hv; cases hv
    | some c' =>
      rw [hx] at hv; simp at hv; subst hv
      obtain ⟨g1, g2⟩ := viewC_rel h hz (show CR E c x from hc) hx
      exact ⟨g1, fits_one g2⟩
  · rename_i cs
    cases hx : viewCs ids cont cs with
    | none => rw [hx] at hv; cases hv
    | some cs' =>
      rw [hx] at hv; simp at hv; subst hv
      obtain ⟨xs, e1, e2⟩ := (show FR E (.agg cs) x from hc)
      obtain ⟨g1, g2⟩ := viewCs_rel h hz e2 hx
      exact ⟨⟨xs, e1, g1⟩, g2⟩
  · cases hv

theorem viewVs_rel (h : RelE we E σ a w) (hz : ∀ p ∈ ids.zip cont, Has σ.mem a.tmps p.1 p.2) : ∀ {vs vs' : List PV} {xs : List Value}, PsR E σ.mem vs xs → viewVs ids cont vs = some vs' → PsR (Env.call w) (fun _ => .free) vs' xs
  | [], vs', xs, hc, hv => by
    simp only [viewVs, Option.some.injEq] at hv
    subst hv
    exact ⟨hc.len, fun j v hj => by simp at hj⟩
  | v :: vs, vs', xs, hc, hv => by
    simp only [viewVs] at hv
    split at hv
    · rename_i v1 vs1 h1 h2
      simp at hv; subst hv
      obtain ⟨x, xs', rfl, e1, _, e3⟩ := hc.head
      obtain ⟨g1, g2⟩ := viewV_rel h hz e1 h1
      exact .cons g1 g2 (viewVs_rel h hz e3 h2)
    · cases hv

theorem retP_rel {T : TypeId} {v : PV} {x : Value} (h : PR E v x) : PR E (retP P T v) x := by
  cases v with
  | fv v => exact retF_rel h
  | tup l => exact h
  | clo f l => exact h
  | isn m => exact h
theorem retP_fits {mem : Nat → MRes} {T : TypeId} {v : PV} (h : Fits mem v) : Fits mem (retP P T v) := by
  cases v with
  | fv v => exact retF_fits h
  | tup l => exact h
  | clo f l => exact h
  | isn m => exact h
theorem retPs_rel {mem : Nat → MRes} : ∀ {ts : List TypeId} {vs : List PV} {xs : List Value}, PsR E mem vs xs → PsR E mem (retPs P ts vs) xs
  | [], vs, xs, h => by simpa [retPs] using h
  | t :: ts, [], xs, h => by simpa [retPs] using h
  | t :: ts, v :: vs, xs, h => by
    obtain ⟨x, xs', rfl, e1, e2, e3⟩ := h.head
    exact .cons (retP_rel e1) (retP_fits e2) (retPs_rel e3)

theorem run_callFunc {f : FuncId} {args : Array Value} (h : callable P f = true) : (callFunc f args).run P w = .ok (.enter f args) w := by
  unfold callable at h
  split at h
  · rename_i fn hf
    simp only [Bool.and_eq_true, Bool.not_eq_true'] at h
    simp only [callFunc, Sem.run_bind, run_program, Result.andThen_ok, hf, h.1, h.2, Bool.false_eq_true, if_false, Sem.run_pure]
  · cases h

theorem calleeF_eval (h : RelE we E σ a w) (hg : Holds a gs) {fx : Operand} {f : FuncId} {l : List FV} (hf : calleeF (rdOp σ.tmps gs) fx = some (f, l)) : ∃ xs : List Value, a.eval fx = .func (.func f) #[] xs.toArray ∧ PsR E σ.mem (l.map .fv) xs := by
  have key : fnOf (rdOp σ.tmps gs fx) = some (f, l) → ∃ xs : List Value, a.eval fx = .func (.func f) #[] xs.toArray ∧ PsR E σ.mem (l.map .fv) xs := fun hf => by
    unfold fnOf at hf
    split at hf
    · rename_i g first captured hx
      split at hf
      · rename_i he
        simp only [Bool.and_eq_true, Array.isEmpty_iff] at he
        simp at hf
        obtain ⟨rfl, rfl⟩ := hf
        have := (show CR E (.raw _) (a.eval fx) from (rdOp_sound h hg hx).1).1
        exact ⟨[], by rw [this, he.1, he.2], .nil E σ.mem⟩
      · cases hf
    · rename_i g l' hx
      simp at hf
      obtain ⟨rfl, rfl⟩ := hf
      obtain ⟨h1, h2⟩ := rdOp_sound h hg hx
      obtain ⟨xs, e1, e2, e3⟩ := (show PR E (.clo g l') (a.eval fx) from h1)
      refine ⟨xs, e1, by simpa using e2, fun j v hj => ?_⟩
      rw [List.getElem?_map] at hj
      cases hl : l'[j]? with
      | none => rw [hl] at hj; cases hj
      | some u =>
        rw [hl] at hj; simp at hj; subst hj
        obtain ⟨y, e4, e5⟩ := e3 j u hl
        exact ⟨⟨y, e4, e5⟩, fun c hc => h2 c (List.mem_flatMap.2 ⟨u, List.mem_of_getElem? hl, hc⟩)⟩
    · cases hf
  cases fx with
  | func g =>
    simp only [calleeF, Option.some.injEq, Prod.mk.injEq] at hf
    obtain ⟨rfl, rfl⟩ := hf
    exact ⟨[], rfl, .nil E σ.mem⟩
  | tmp t => exact key hf
  | const c => exact key hf
  | global g => exact key hf

theorem PsR.app {mem : Nat → MRes} : ∀ {vs us : List PV} {xs ys : List Value}, PsR E mem vs xs → PsR E mem us ys → PsR E mem (vs ++ us) (xs ++ ys)
  | [], us, xs, ys, h, k => by
    have : xs = [] := by have := h.len; simpa using this
    subst this
    exact k
  | v :: vs, us, xs, ys, h, k => by
    obtain ⟨x, xs', rfl, e1, e2, e3⟩ := h.head
    exact .cons e1 e2 (e3.app k)

/-- A literal of new things that are only read from now on. -/
theorem still_rel {E : Env} {w : World} {k : K} {n : Nat} {cs : List Cell} {l : List k.Ty} {rs : List Value} {e : TypeId} (h0 : E.n0 ≤ w.heap.size) (hF : ∀ b, E.F b → b < w.heap.size ∧ w.heap[b]? = E.wf.heap[b]?) (hk : k.still = true) (hnew : cs.all newC = true)
    (hl : ofRows k (chunk k.sz n (cs.map softC)) = some l) (h2 : CsR E cs rs) (hrl : rs.length = n * k.sz) (hn : n ≤ maxLen) : CR (E.frz w (w.alloc (.cells rs.toArray e))) (.slc true ⟨k, l⟩) (.slice (some ⟨w.heap.size, 0, none⟩) n n) := by
  have hmono : ∀ b, (E.lim true).F b → ((E.frz w (w.alloc (.cells rs.toArray e))).lim true).F b ∧ (w.alloc (.cells rs.toArray e)).heap[b]? = E.wf.heap[b]? := fun b hb =>
    ⟨⟨.inl hb.1, hb.2⟩, by rw [Below.heap_alloc w _ b (hF b hb.1).1]; exact (hF b hb.1).2⟩
  have hcs : CsR ((E.frz w (w.alloc (.cells rs.toArray e))).lim true) (cs.map softC) rs := by
    refine ⟨by rw [List.length_map]; exact h2.len, fun j c hj => ?_⟩
    rw [List.getElem?_map] at hj
    cases hc0 : cs[j]? with
    | none => rw [hc0] at hj; cases hj
    | some c0 =>
      rw [hc0] at hj
      simp only [Option.map_some, Option.some.injEq] at hj
      obtain ⟨y, h3, h4⟩ := h2.get j c0 hc0
      refine ⟨y, h3, ?_⟩
      have hn0 := List.all_eq_true.1 hnew c0 (List.mem_of_getElem? hc0)
      rw [← hj]
      cases c0 with
      | int q v => exact h4
      | bool b => exact h4
      | slc nw m =>
        have hsoft : softC (.slc nw m) = .slc false m := by cases nw <;> rfl
        rw [hsoft]
        simp only [newC, Bool.or_eq_true, Bool.and_eq_true] at hn0
        rcases hn0 with hn0 | ⟨hnw, hfl⟩
        · have hm0 : m.len = 0 := by simpa [SL.len] using hn0
          rcases h4 with h4 | ⟨a, cap, e1, e2, _⟩
          · exact .inl h4
          · exact .inr ⟨a, cap, e1, e2, fun i hi => by omega⟩
        · subst hnw
          rcases h4 with h4 | ⟨a, cap, e1, e2, e3⟩
          · exact .inl h4
          · refine .inr ⟨a, cap, e1, e2, fun i hi => ?_⟩
            obtain ⟨e4, e5⟩ := e3 i hi
            refine ⟨(hmono _ e4).1, fun q c hq => ?_⟩
            obtain ⟨z, e6, e7⟩ := e5 q c hq
            refine ⟨z, ?_, CR_flat (flat_mem hfl hq) e7⟩
            rw [← e6]
            refine World.cell?_of_block ?_
            rw [add_block]; exact (hmono _ e4).2
      | _ => cases hn0
  obtain ⟨h4, h5⟩ := rowR_chunk hl hcs
  have hlow : k.low = true := by cases k <;> first | rfl | cases hk
  refine .inr ⟨⟨w.heap.size, 0, none⟩, n, by rw [h4], ⟨by rw [h4]; exact Nat.le_refl _, by rw [h4]; exact hn⟩, fun i hi => ⟨⟨.inr ⟨Nat.le_refl _, heap_lt (heap_alloc_new w _)⟩, h0⟩, fun j c hj => ?_⟩⟩
  obtain ⟨y, h6, h7⟩ := h5 i hi j c hj
  refine ⟨y, ?_, ?_⟩
  · show (w.alloc (.cells rs.toArray e)).cell? _ = _
    rw [add_lit, cell_of_blk (heap_alloc_new w _)]
    simpa using h6
  · rcases SL.at_mem hj with ⟨_, _, rfl⟩ | ⟨_, rfl⟩ | ⟨m', rfl⟩
    · exact h7
    · exact h7
    · exact CRd_flat_slc (d := 3) (d' := 2) (K.cells_low hlow (List.mem_of_getElem? hj)) h7

section
variable {P : Program} {ctrs : FuncId → Option Contract} {we : World} {E : Env} {σ : St} {a : Act} {w : World} {o : Oper} {gs : List (Nat × Bool)} {self : Nat} {ids : List Nat} {cont : List Res} {out : Out}
theorem core_buildSlice (h : RelE we E σ a w) (hg : Holds a gs) {T : TypeId} {n : Nat} {parts : Array (Nat × Operand)} (ho : o.op = .buildSlice T n parts) (hc : core P ctrs o (rdOp σ.tmps) gs self ids cont = some out) : COK P we E σ.mem a w o self ids cont out := by
  simp only [core, ho] at hc
  split at hc
  · rename_i e ps he hps
    have hu := elemOf_spec he
    split at hc
    · rename_i i k hi hk
      split at hc
      · rename_i z hz
        split at hc
        · cases hc
        · rename_i hchk
          simp only [Bool.not_eq_true', Bool.not_eq_false, Bool.and_eq_true, decide_eq_true_eq] at hchk
          obtain ⟨hone, hzs, his, hlim⟩ := hchk
          split at hc
          · rename_i cs hcs
            have hz0 := zero_rel (P := P) (E := E) hone (leafTys P 8 e)
            have hzl : (retCs P (leafTys P 8 e) (z.cells.toList.map ofVal)).length = k.sz := by rw [retCs_len]; simp [hzs]
            have hzr := zeros_rel hz0 n
            rw [hzl] at hzr
            obtain ⟨rs, h1, h2, h3⟩ := fillC_sound (E := E) (mem := σ.mem) hcs (fvParts_sound h hg hps) hzr (fun c hcm => by
              obtain ⟨l', hl', hcl⟩ := List.mem_flatten.1 hcm
              rw [List.eq_of_mem_replicate hl'] at hcl
              exact zero_fits _ c hcl)
            have hcell : P.cellsOf e = k.sz := by simp [Program.cellsOf, hi, his]
            have hrl : rs.length = n * k.sz := by
              have hfl : ∀ (ps : List (Nat × FV)) (cs r : List Cell), fillC (fun j => some (j * k.sz, k.sz)) cs ps = some r → r.length = cs.length := by
                intro ps
                induction ps with
                | nil => intro cs r hr; simp only [fillC, Option.some.injEq] at hr; rw [hr]
                | cons p ps ih =>
                  intro cs r hr
                  simp only [fillC] at hr
                  split at hr
                  · rename_i hle
                    rw [ih _ _ hr]
                    simp [splice]; omega
                  · cases hr
              rw [h2.len, hfl _ _ _ hcs, replicate_len, hzl]
            have hn : n ≤ maxLen := by
              have : n * 1 ≤ n * k.sz := Nat.mul_le_mul_left _ (K.sz_pos k)
              simp only [maxLen]; omega
            have hrun : (execOp a.eval o).run P w = .ok (.value (.slice (some ⟨w.heap.size, 0, none⟩) n n)) (w.alloc (.cells rs.toArray e)) := by
              have hz' : ((Array.range (n * k.sz)).map (z.cells[· % z.cells.size]!)) = madeCells z.cells (n * k.sz) := rfl
              rw [show (madeCells z.cells (n * k.sz)).toList.toArray = madeCells z.cells (n * k.sz) by simp] at h1
              by_cases h0 : n * k.sz = 0
              · have hemp : ((Array.range (n * k.sz)).map fun x => (#[] : Array Value)[x % (#[] : Array Value).size]!) = madeCells z.cells (n * k.sz) := by
                  rw [h0]; simp [madeCells, Array.range_zero']
                have hlim' : ¬ (n * k.sz > 2 ^ 24) := by omega
                simp only [execOp, ho, Instr.buildSlice, Sem.run_bind, run_underlying hu, Result.andThen_ok, run_sizeOf hi, hcell, if_neg hlim', if_pos h0, Sem.run_pure, hemp, Array.toList_map, h1, newRow]
                simp
              · have hlim' : ¬ (n * k.sz > 2 ^ 24) := by omega
                simp only [execOp, ho, Instr.buildSlice, Sem.run_bind, run_underlying hu, Result.andThen_ok, run_sizeOf hi, hcell, if_neg hlim', if_neg h0, zeroValue, typeInfo, run_program, hi, hz, Sem.run_pure, hz', Array.toList_map, h1, newRow]
                simp
            split at hc
            · rename_i hst
              split at hc
              · rename_i hnw
                split at hc
                · rename_i l hl
                  simp only [one, pureOut, Option.some.injEq] at hc
                  subst hc
                  exact .inr (.inr (.inr (.inr (.inr (.inr (.inr (.inl ⟨_, _, _, rfl, rfl, rfl, fits_one (c := .slc true ⟨k, l⟩) trivial, hrun, (Below.refl _ _).alloc (Nat.le_refl _) _, still_rel (by rw [h.n0]; exact h.below.size) h.fz hst hnw hl h2 hrl hn⟩)))))))
                · cases hc
              · cases hc
            · split at hc
              · rename_i l hl
                simp only [Option.some.injEq] at hc
                subst hc
                obtain ⟨h4, h5⟩ := rowR_chunk hl h2
                have how := World.ownsRow_lit (base := we.heap.size) (e := e) (size := k.sz) w rs.toArray n h.below.size hn (by simp [hrl])
                exact COK.row (x := .slice (some ⟨w.heap.size, 0, none⟩) n n) (xs := rs) (w' := w.alloc (.cells rs.toArray e)) hrun (by rw [h4]; simpa [SL.sz] using how) h5 (World.grownBy_alloc w _ none) (fun b hb => by simp [Value.ownBlock] at hb; omega)
              · cases hc
          · cases hc
      · cases hc
    · cases hc
  · cases hc
end

theorem core_callFunc (hC : ∀ f C, ctrs f = some C → Sound P f C) (h : RelE we E σ a w) (hg : Holds a gs) {c : Call} {fx : Operand} (ho : o.op = .call c) (hcal : c.callee = .value fx) (hct : contOf gs σ.mem ids = some cont)
    (hc : core P ctrs o (rdOp σ.tmps) gs self ids cont = some out) (hn : Conj out.need) : COK P we E σ.mem a w o self ids cont out := by
  simp only [core, ho, hcal] at hc
  split at hc
  · rename_i f l hf
    obtain ⟨ys, hev, hcap⟩ := calleeF_eval h hg hf
    split at hc
    · rename_i C args hCf hargs
      split at hc
      · rename_i args' hview
        have hps := mapOps_sound h hg hargs
        have hps' := viewVs_rel h (contOf_zip hg hct) ((retPs_rel (P := P) (ts := c.argTypes.toList) hps).app hcap) hview
        have hS := hC f C hCf
        have hargl : c.args.map a.eval = (c.args.toList.map a.eval).toArray := Array.ext' (by simp)
        have happ : (c.args.toList.map a.eval).toArray ++ ys.toArray = (c.args.toList.map a.eval ++ ys).toArray := by simp
        have hrun : (execOp a.eval o).run P w = .ok (.enter f (c.args.toList.map a.eval ++ ys).toArray) w := by
          simp only [execOp, ho, resolve, hcal, hev, Deferred.ofValue, invoke, Sem.run_bind, Sem.run_pure, Result.andThen_ok, hargl, Array.empty_append, happ, run_callFunc hS.call]
        split at hc
        · rename_i p e m hCv
          split at hc
          · rename_i hflat
            simp only [one, Option.some.injEq] at hc; subst hc
            have hcalls := hS.runs args' p _ hCv hn w _ hps'
            refine .inr (.inr (.inl ⟨e, m, f, _, rfl, rfl, rfl, hrun, hcalls.mono fun ex w' he => ?_⟩))
            obtain ⟨x, e1, e2, xs, e3, e4⟩ := he
            exact ⟨x, xs, e1, e2, e3, RowR_flat hflat e4⟩
          · cases hc
        · rename_i p v hnf hCv
          split at hc
          · rename_i hpl
            simp only [Option.some.injEq] at hc; subst hc
            have hcalls := hS.runs args' p _ hCv hn w _ hps'
            refine .inr (.inl ⟨v, f, _, rfl, rfl, rfl, fun c hcm => plain_fits (plainV_cells hpl c hcm) _, hrun, hcalls.mono fun ex w' he => ?_⟩)
            obtain ⟨x, e1, e2, e3⟩ := he
            refine ⟨x, e1, e2, plainV_frz (by rw [h.n0]; exact h.below.size) hpl ?_⟩
            unfold ResR at e3
            split at e3
            · cases hpl
            · exact e3
          · cases hc
        · cases hc
      · cases hc
    · cases hc
  · cases hc

/-! ### min, max, len -/

theorem foldF_min {k : IntKind} : ∀ {x : Cell} {l : List PV} {c : Cell} {xs : List Value} {n : Int}, x = .int k n → foldF minF x l = some c → PsR E σ.mem l xs → ∃ n', c = .int k n' ∧ ((xs.foldlM Builtin.min2 (.int k n) : Sem Value).run P w = .ok (.int k n') w)
  | x, [], c, xs, n, hx, h, hp => by
    simp only [foldF, Option.some.injEq] at h
    have : xs = [] := by have := hp.len; simpa using this
    subst this
    exact ⟨n, by rw [← h, hx], rfl⟩
  | x, v :: l, c, xs, n, hx, h, hp => by
    subst hx
    obtain ⟨y, ys, rfl, e1, _, e3⟩ := hp.head
    unfold foldF at h
    split at h
    · rename_i heq; cases heq
    · rename_i x' y' rest heq
      injection heq with e4 e5
      subst e4 e5
      split at h
      · rename_i z hz
        unfold minF at hz
        split at hz
        · rename_i k1 m k2 m2 e6 _
          injection e6 with e7 e8
          subst e7 e8
          simp at hz; subst hz
          have hy : y = .int k2 m2 := e1
          obtain ⟨n', h1, h2⟩ := foldF_min (k := k) rfl h e3
          refine ⟨n', h1, ?_⟩
          rw [hy]
          simp only [List.foldlM_cons, Sem.run_bind, Builtin.min2, Sem.run_pure, Result.andThen_ok]
          exact h2
        · cases hz
      · cases h
    · cases h

theorem foldF_max {k : IntKind} : ∀ {x : Cell} {l : List PV} {c : Cell} {xs : List Value} {n : Int}, x = .int k n → foldF maxF x l = some c → PsR E σ.mem l xs → ∃ n', c = .int k n' ∧ ((xs.foldlM Builtin.max2 (.int k n) : Sem Value).run P w = .ok (.int k n') w)
  | x, [], c, xs, n, hx, h, hp => by
    simp only [foldF, Option.some.injEq] at h
    have : xs = [] := by have := hp.len; simpa using this
    subst this
    exact ⟨n, by rw [← h, hx], rfl⟩
  | x, v :: l, c, xs, n, hx, h, hp => by
    subst hx
    obtain ⟨y, ys, rfl, e1, _, e3⟩ := hp.head
    unfold foldF at h
    split at h
    · rename_i heq; cases heq
    · rename_i x' y' rest heq
      injection heq with e4 e5
      subst e4 e5
      split at h
      · rename_i z hz
        unfold maxF at hz
        split at hz
        · rename_i k1 m k2 m2 e6 _
          injection e6 with e7 e8
          subst e7 e8
          simp at hz; subst hz
          have hy : y = .int k2 m2 := e1
          obtain ⟨n', h1, h2⟩ := foldF_max (k := k) rfl h e3
          refine ⟨n', h1, ?_⟩
          rw [hy]
          simp only [List.foldlM_cons, Sem.run_bind, Builtin.max2, Sem.run_pure, Result.andThen_ok]
          exact h2
        · cases hz
      · cases h
    · cases h

theorem core_min (h : RelE we E σ a w) (hg : Holds a gs) {c : Call} (ho : o.op = .call c) (hcal : c.callee = .builtin .min) (hc : core P ctrs o (rdOp σ.tmps) gs self ids cont = some out) : COK P we E σ.mem a w o self ids cont out := by
  simp only [core, ho, hcal] at hc
  split at hc
  · rename_i k n rest hargs
    split at hc
    · rename_i c' hf
      simp only [one, pureOut, Option.some.injEq] at hc
      subst hc
      obtain ⟨y, ys, e0, e1, _, e3⟩ := (mapOps_sound h hg hargs).head
      obtain ⟨n', rfl, hr⟩ := foldF_min (P := P) (w := w) rfl hf e3
      have hy : y = .int k n := e1
      have hl : c.args.map a.eval = (.int k n :: ys).toArray := by
        apply Array.ext'
        rw [Array.toList_map, e0, hy]
      refine COK.int ?_
      simp only [execOp, ho, resolve, hcal, Sem.run_bind, Sem.run_pure, Result.andThen_ok, invoke, builtin, Builtin.min_, hl]
      simp [hr]
    · cases hc
  · cases hc

theorem core_max (h : RelE we E σ a w) (hg : Holds a gs) {c : Call} (ho : o.op = .call c) (hcal : c.callee = .builtin .max) (hc : core P ctrs o (rdOp σ.tmps) gs self ids cont = some out) : COK P we E σ.mem a w o self ids cont out := by
  simp only [core, ho, hcal] at hc
  split at hc
  · rename_i k n rest hargs
    split at hc
    · rename_i c' hf
      simp only [one, pureOut, Option.some.injEq] at hc
      subst hc
      obtain ⟨y, ys, e0, e1, _, e3⟩ := (mapOps_sound h hg hargs).head
      obtain ⟨n', rfl, hr⟩ := foldF_max (P := P) (w := w) rfl hf e3
      have hy : y = .int k n := e1
      have hl : c.args.map a.eval = (.int k n :: ys).toArray := by
        apply Array.ext'
        rw [Array.toList_map, e0, hy]
      refine COK.int ?_
      simp only [execOp, ho, resolve, hcal, Sem.run_bind, Sem.run_pure, Result.andThen_ok, invoke, builtin, Builtin.max_, hl]
      simp [hr]
    · cases hc
  · cases hc

theorem core_len (h : RelE we E σ a w) (hg : Holds a gs) {c : Call} (ho : o.op = .call c) (hcal : c.callee = .builtin .len) (hp : plan o (rdOp σ.tmps gs) = ids) (hct : contOf gs σ.mem ids = some cont)
    (hc : core P ctrs o (rdOp σ.tmps) gs self ids cont = some out) : COK P we E σ.mem a w o self ids cont out := by
  simp only [core, ho, hcal] at hc
  have hone : ∀ {v : PV}, mapOps (rdOp σ.tmps gs) c.args.toList = some [v] → ∃ y, c.args.map a.eval = #[y] ∧ PR E v y := fun hargs => by
    obtain ⟨y, ys, e0, e1, _, e3⟩ := (mapOps_sound h hg hargs).head
    have : ys = [] := by have := e3.len; simpa using this
    subst this
    exact ⟨y, Array.ext' (by rw [Array.toList_map, e0]), e1⟩
  split at hc
  · rename_i ct e nw m ht hargs
    simp only [one, pureOut, Option.some.injEq] at hc
    subst hc
    obtain ⟨y, hl, e1⟩ := hone hargs
    obtain ⟨t, ht1, ht2⟩ := Option.bind_eq_some_iff.1 ht
    have hy : ∃ ad cap, y = .slice ad m.len cap := by
      rcases lim_slc (show CR E (.slc nw m) y from e1) with ⟨h1, h2⟩ | ⟨ad, cap, h1, _⟩
      · exact ⟨none, 0, by rw [h1, h2]⟩
      · exact ⟨some ad, cap, h1⟩
    obtain ⟨ad, cap, rfl⟩ := hy
    refine COK.int ?_
    simp [execOp, ho, resolve, hcal, invoke, builtin, Builtin.len_, hl, ht1, run_underlying ht2, goInt]
  · rename_i e id e' m ht hargs
    simp only [one, pureOut, Option.some.injEq] at hc
    subst hc
    obtain ⟨y, hl, e1⟩ := hone hargs
    obtain ⟨t, ht1, ht2⟩ := Option.bind_eq_some_iff.1 ht
    have hid : ids = [id] := by rw [← hp]; simp [plan, ho, hcal, hargs, PV.ids, FV.cells, Cell.ids]
    subst hid
    obtain ⟨r, hr, hh⟩ := contOf_one hg hct
    simp at hr; subst hr
    obtain ⟨xs, hown, _⟩ := h.mem id _ hh
    have hy : ∃ ad cap, y = .slice ad m.len cap := by
      have e1 : y = E.γ id := (show CR E (.own id) y from e1).1
      rcases hown.2 with ⟨h3, h4⟩ | ⟨g, cap, cur, h3, _⟩
      · exact ⟨none, 0, by rw [e1, h3, h4]⟩
      · exact ⟨_, cap, by rw [e1, h3]⟩
    obtain ⟨ad, cap, rfl⟩ := hy
    refine COK.int ?_
    simp [execOp, ho, resolve, hcal, invoke, builtin, Builtin.len_, hl, ht1, run_underlying ht2, goInt]
  · rename_i n e v ht hargs
    simp only [one, pureOut, Option.some.injEq] at hc
    subst hc
    obtain ⟨y, hl, e1⟩ := hone hargs
    obtain ⟨t, ht1, ht2⟩ := Option.bind_eq_some_iff.1 ht
    refine COK.int ?_
    simp [execOp, ho, resolve, hcal, invoke, builtin, Builtin.len_, hl, ht1, run_underlying ht2, goInt]
  · cases hc
end
end Go.Eng
